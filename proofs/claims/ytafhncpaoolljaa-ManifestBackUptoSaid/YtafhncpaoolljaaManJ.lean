/- Manifest: the document's Same. -/
import Derived.Test.YtafhncpaoolljaaManH
namespace Go.Proofs.Ytafhncpaoolljaa
set_option maxRecDepth 100000
set_option linter.unusedVariables false
open Go Go.RowKit

theorem eq_two (a b c d : ByteArray) (w : World) : (Op.equalIn 10000 33 (.agg #[.string a, .string b]) (.agg #[.string c, .string d])).run Try.prog w = .ok (a.toList == c.toList && b.toList == d.toList) w := by
  have h1 := run_equalIn_string (P := Try.prog) w 9998 9 a c Try.underlying9
  have h2 := run_equalIn_string (P := Try.prog) w 9998 9 b d Try.underlying9
  have P : ∀ (a b : ByteArray), (part 9 #[.string a, .string b] 0).run Try.prog w = .ok (.string a) w ∧ (part 9 #[.string a, .string b] 1).run Try.prog w = .ok (.string b) w := fun _ _ => ⟨by kernel_rfl, by kernel_rfl⟩
  obtain ⟨p0, p1⟩ := P a b
  obtain ⟨q0, q1⟩ := P c d
  rw [show 10000 = 9999 + 1 from rfl, run_equalIn_agg w 9999 33 _ _ (by unfold Program.fieldsOf; rw [Try.underlying33]) (by kernel_rfl)]
  unfold Program.fieldsOf
  rw [Try.underlying33]
  simp only [Op.eqFields]
  clear P
  generalize (a.toList == c.toList) = x at *
  generalize (b.toList == d.toList) = y at *
  cases x <;> cases y <;> simp [Sem.run_bind, p0, p1, q0, q1, h1, h2]
theorem eq_sm (x y : SM) (w : World) : (Op.equalIn 10000 33 (.agg #[.string x.name, .string x.sum]) (.agg #[.string y.name, .string y.sum])).run Try.prog w = .ok (decide (x = y)) w := by
  rw [eq_two, ba_eq, ba_eq]
  congr 1
  rw [Bool.eq_iff_iff, Bool.and_eq_true, decide_eq_true_iff, decide_eq_true_iff, decide_eq_true_iff, SM.eq_iff]
theorem list_ext_at {l m : List SM} (hl : l.length = m.length) (h : ∀ i : Nat, i < l.length → l[i]? = m[i]?) : l = m := by
  apply List.ext_getElem?
  intro i
  by_cases hi : i < l.length
  · exact h i hi
  · rw [List.getElem?_eq_none (by omega), List.getElem?_eq_none (by omega)]
set_option maxHeartbeats 2000000 in
theorem same_any (l r : List SM) (v u : Value) (w : World) (hS : SumsS w v l) (hR : SumsS w u r) : Calls Try.prog 14 #[v, u] w fun e w' => e = .returned (.bool (decide (l = r))) ∧ Below w.heap.size w w' := by
  obtain ⟨ao, cap, rfl, hlen, _, hcells⟩ := hS
  obtain ⟨bo, cbp, rfl, hlen2, _, hcells2⟩ := hR
  unfold maxLen at hlen hlen2
  obtain ⟨V, hV⟩ : ∃ V, V = decide (l = r) := ⟨_, rfl⟩
  rw [← hV]
  have HC := Box.mk hcells; have HC2 := Box.mk hcells2; have HV := Box.mk hV
  clear hcells hcells2 hV
  by_cases hl : l.length = r.length
  · have e1 : ((l.length : Int) != (r.length : Int)) = false := by rw [bne_eq_false_iff_eq]; omega
    have e2 : ((l.length : Int) == (r.length : Int)) = true := by rw [beq_iff_eq]; omega
    have HL := Box.mk hl
    clear hl
    go_enter Try.func14, Try.ntmps14
    go_wp2_with fail
    clear e1 e2
    go_loopw [5] (fun i wr => ∃ j : Nat, j ≤ l.length ∧ i = .int .i64 (j : Int) ∧ (∀ k, k < j → l[k]? = r[k]?) ∧ Below w.heap.size w wr) (fun i _ => l.length - (intOf i).toNat)
    case atStart => exact ⟨0, Nat.zero_le _, rfl, (fun k h => by omega), Below.refl _ _⟩
    case round =>
      obtain ⟨j, hj, rfl, hf, hb⟩ := hrel
      have HF := Box.mk hf; have HB := Box.mk hb
      clear hf hb
      by_cases hlt : j < l.length
      · have hltI : (j : Int) < (l.length : Int) := by omega
        have hltJ : (j : Int) < (r.length : Int) := by have := HL.out; omega
        obtain ⟨x, hx⟩ : ∃ s, l[j]? = some s := ⟨_, List.getElem?_eq_getElem hlt⟩
        obtain ⟨y, hy⟩ : ∃ s, r[j]? = some s := ⟨_, List.getElem?_eq_getElem (by have := HL.out; omega)⟩
        obtain ⟨a, rfl, HO⟩ := HC.out j x hx
        obtain ⟨b, rfl, HP⟩ := HC2.out j y hy
        obtain ⟨q0, q1⟩ := (HO.below HB.out HO.lt).flat
        obtain ⟨p0, p1⟩ := (HP.below HB.out HP.lt).flat
        have HXY := Box.mk (And.intro hx hy)
        clear HO HP hx hy
        by_cases he : x = y
        · have EQ := fun w => (eq_sm x y w).trans (by rw [decide_eq_true he])
          have NX : Box (∀ k, k < j + 1 → l[k]? = r[k]?) := ⟨fun k hk => by
            by_cases h : k = j
            · subst h; rw [HXY.out.1, HXY.out.2, he]
            · exact HF.out k (by omega)⟩
          clear he
          go_upto_region 6 with (fail)
          go_region
          all_goals
            go_wp2_with fail
            exact ⟨⟨j + 1, hlt, by go_num, NX.out, HB.out.drew⟩, by simp [intOf]; omega⟩
        · have EQ := fun w => (eq_sm x y w).trans (by rw [decide_eq_false he])
          have HN : Box (V = false) := ⟨by
            rw [HV.out, decide_eq_false_iff_not]; intro h
            apply he
            have h1 := HXY.out.1; have h2 := HXY.out.2
            rw [h, h2] at h1
            exact (Option.some.inj h1).symm⟩
          clear he HV
          go_upto_region 6 with (fail)
          go_region
          all_goals
            go_wp2_with fail
            go_ret
            rw [HN.out]
            exact ⟨rfl, HB.out.drew⟩
      · have hltI : ¬ (j : Int) < (l.length : Int) := by omega
        have HN : Box (V = true) := ⟨by
          rw [HV.out, decide_eq_true_iff]
          exact list_ext_at HL.out (fun i hi => HF.out i (by omega))⟩
        clear HV
        go_wp2_with fail
        go_ret
        rw [HN.out]
        exact ⟨rfl, HB.out⟩
  · have e1 : ((l.length : Int) != (r.length : Int)) = true := by rw [bne_iff_ne]; omega
    have e2 : ((l.length : Int) == (r.length : Int)) = false := by rw [beq_eq_false_iff_ne]; omega
    have HN : Box (V = false) := ⟨by rw [HV.out, decide_eq_false_iff_not]; intro h; exact hl (by rw [h])⟩
    clear hl HV
    go_enter Try.func14, Try.ntmps14
    go_wp2_with fail
    go_ret
    rw [HN.out]
    exact ⟨rfl, Below.refl _ _⟩
end Go.Proofs.Ytafhncpaoolljaa
