/- Manifest: Print of the document. -/
import Derived.Test.YtafhncpaoolljaaManE
namespace Go.Proofs.Ytafhncpaoolljaa
set_option maxRecDepth 100000
set_option linter.unusedVariables false
open Go Go.RowKit

theorem prV_once {l : List SM} (h1 : 1 ≤ l.length) (h2 : l.length ≤ 16) (hm : ∀ x ∈ l, x.May) : prV l = if onceM l = true then .tuple #[.string ⟨(textM l).toArray⟩, .int .i64 0] else .tuple #[.string ⟨#[]⟩, .int .i64 221] := by
  unfold prV printM
  rw [if_neg (by omega), if_neg (by rw [(mays_iff l).2 hm]; decide)]
  cases onceM l <;> rfl
theorem may_bad {x : SM} (h : ¬ (x.sum.size = 32 ∧ 1 ≤ x.name.size ∧ x.name.size ≤ 100)) : x.may = false := by
  rw [SM.may_no]; intro hm; exact h ⟨hm.sum, hm.some, hm.few⟩
theorem may_byte {x : SM} {k : Nat} (hk : k < x.name.size) (h : nmB (x.name[k]) = false) : x.may = false := by
  rw [SM.may_no]; intro hm
  have := hm.all (x.name[k]) (List.getElem_mem (l := x.name.data.toList) (by rw [ba_len]; exact hk))
  unfold nmB at h
  exact absurd this (of_decide_eq_false h)
theorem may_all {x : SM} (h1 : x.sum.size = 32) (h2 : 1 ≤ x.name.size) (h3 : x.name.size ≤ 100) (h : (x.name.data.toList.take x.name.size).all nmB = true) : x.May := by
  rw [← SM.may_iff]; unfold SM.may
  rw [take_all] at h
  simp [h1, h2, h3, h]
set_option maxHeartbeats 4000000 in
theorem rprint_any (l : List SM) (v : Value) (w : World) (hS : SumsS w v l) : Calls Try.prog 8 #[v] w fun e w' => e = .returned (prV l) ∧ Below w.heap.size w w' := by
  obtain ⟨ao, cap, rfl, hlen, hsz, hcells⟩ := hS
  unfold maxLen at hlen
  obtain ⟨V, hV⟩ : ∃ V, V = prV l := ⟨_, rfl⟩
  rw [← hV]
  have HCELLS := Box.mk hcells; have HSZ := Box.mk hsz; have HV := Box.mk hV
  clear hcells hsz hV
  by_cases h1 : l.length < 1
  · as_aux_lemma =>
    have h1I : (l.length : Int) < 1 := by omega
    have HN : Box (V = .tuple #[.string ⟨#[]⟩, .int .i64 220]) := ⟨by rw [HV.out]; exact prV_form (.inl h1)⟩
    clear h1 HV
    go_enter Try.func8, Try.ntmps8
    go_wp2_with fail
    go_ret2
    rw [HN.out]
    exact ⟨rfl, Below.refl _ _⟩
  · by_cases h2 : 16 < l.length
    · as_aux_lemma =>
      have h1I : ¬ (l.length : Int) < 1 := by omega
      have h2I : (16 : Int) < (l.length : Int) := by omega
      have HN : Box (V = .tuple #[.string ⟨#[]⟩, .int .i64 220]) := ⟨by rw [HV.out]; exact prV_form (.inr h2)⟩
      clear h1 h2 HV
      go_enter Try.func8, Try.ntmps8
      go_wp2_with fail
      go_ret2
      rw [HN.out]
      exact ⟨rfl, Below.refl _ _⟩
    · have h1I : ¬ (l.length : Int) < 1 := by omega
      have h2I : ¬ (16 : Int) < (l.length : Int) := by omega
      have HLN := Box.mk (show 1 ≤ l.length ∧ l.length ≤ 16 from ⟨by omega, by omega⟩)
      clear h1 h2
      go_enter Try.func8, Try.ntmps8
      go_wp2_with fail
      go_loopw [4, 5, 6] (fun s t i wr => ∃ (j : Nat) (TX : ByteArray), j ≤ l.length ∧ s = .string TX ∧ t = .bool (!onceM (l.take j)) ∧ i = .int .i64 (j : Int) ∧ TX.data.toList = textM (l.take j) ∧ (∀ x ∈ l.take j, x.May) ∧ Below w.heap.size w wr) (fun _ _ i _ => l.length - (intOf i).toNat)
      case atStart => exact ⟨0, ⟨#[]⟩, Nat.zero_le _, rfl, rfl, rfl, rfl, fun x hx => by simp at hx, Below.refl _ _⟩
      case round =>
        obtain ⟨j, TX, hj, rfl, rfl, rfl, htx, hm, hb⟩ := hrel
        have MAY := Box.mk hm; have HB := Box.mk hb; have HTX := Box.mk htx
        clear hm hb htx
        obtain ⟨tw, htw⟩ : ∃ b, b = !onceM (l.take j) := ⟨_, rfl⟩
        rw [← htw]
        have HTW := Box.mk htw
        clear htw
        by_cases hlt : j < l.length
        · as_aux_lemma =>
          have hltI : (j : Int) < (l.length : Int) := by omega
          obtain ⟨x, hx⟩ : ∃ s, l[j]? = some s := ⟨_, List.getElem?_eq_getElem hlt⟩
          obtain ⟨a, rfl, HO⟩ := HCELLS.out j x hx
          have HXL := Box.mk (List.mem_of_getElem? hx)
          obtain ⟨q0, q1⟩ := (HO.below HB.out HO.lt).flat
          have TK : Box (l.take (j + 1) = l.take j ++ [x]) := ⟨by rw [List.take_add_one, hx]; rfl⟩
          have SZ := HSZ.out x HXL.out
          unfold maxLen at SZ
          have HSX := Box.mk SZ
          have HLT := Box.mk hlt
          clear HO hx hlt
          obtain ⟨n, hn⟩ : ∃ n, n = x.name.size := ⟨_, rfl⟩
          obtain ⟨m, hmm⟩ : ∃ n, n = x.sum.size := ⟨_, rfl⟩
          have hne : x.name.size = n := hn.symm
          have hme : x.sum.size = m := hmm.symm
          have HNM := Box.mk (And.intro hne hme)
          by_cases hbad : m = 32 ∧ 1 ≤ n ∧ n ≤ 100
          · obtain ⟨f1, f2, f3⟩ := hbad
            have f1I : ((m : Int) != 32) = false := by rw [bne_eq_false_iff_eq]; omega
            have f1J : ((m : Int) == 32) = true := by rw [beq_iff_eq]; omega
            have f2I : ¬ (n : Int) < 1 := by omega
            have f3I : ¬ (100 : Int) < (n : Int) := by omega
            have HF := Box.mk (show m = 32 ∧ 1 ≤ n ∧ n ≤ 100 from ⟨f1, f2, f3⟩)
            clear f1 f2 f3 hn hmm SZ
            go_wp2_with fail
            clear f1I f1J f2I f3I
            obtain ⟨wo, rfl⟩ : ∃ wo : World, wo = wr := ⟨_, rfl⟩
            go_loopw [8] (fun i wr => ∃ k : Nat, k ≤ n ∧ i = .int .i64 (k : Int) ∧ (x.name.data.toList.take k).all nmB = true ∧ wo = wr) (fun i _ => n - (intOf i).toNat)
            case atStart => exact ⟨0, Nat.zero_le _, rfl, rfl, rfl⟩
            case round =>
              obtain ⟨k, hk, rfl, hka, rfl⟩ := hrel
              have KA := Box.mk hka
              clear hka
              by_cases hkl : k < n
              · as_aux_lemma =>
                have hkI : (k : Int) < (n : Int) := by omega
                have hks : k < x.name.size := by have := HNM.out.1; omega
                have hkI2 : (k : Int) < (x.name.size : Int) := by omega
                obtain ⟨c, hc⟩ : ∃ c, c = x.name[k] := ⟨_, rfl⟩
                have hce : x.name[k] = c := hc.symm
                obtain ⟨X, hX⟩ : ∃ X, X = c.toNat := ⟨_, rfl⟩
                have hcX : (c.toNat : Int) = (X : Int) := by rw [hX]
                by_cases g : 32 < X ∧ X < 127
                · have g1I : ¬ (X : Int) ≤ 32 := by omega
                  have g2I : ¬ (127 : Int) ≤ (X : Int) := by omega
                  have NA : Box ((x.name.data.toList.take (k + 1)).all nmB = true) := ⟨by rw [take_succ_at x.name k hks, hce, List.all_append, KA.out]; unfold nmB; simp; omega⟩
                  have hn100 := HF.out.2.2
                  have hwk : IntKind.i64.wrap ((k : Int) + 1) = (k : Int) + 1 := by rw [IntKind.wrap_i64]; omega
                  clear g hc hX
                  go_wp2_with fail
                  exact ⟨⟨k + 1, hkl, by go_num, NA.out, trivial⟩, by simp [intOf]; omega⟩
                · have HN : Box (V = .tuple #[.string ⟨#[]⟩, .int .i64 220]) := ⟨by
                    rw [HV.out]
                    exact prV_may HXL.out (may_byte hks (by rw [hce]; unfold nmB; rw [decide_eq_false_iff_not, ← hX]; exact g))⟩
                  by_cases g1 : X ≤ 32
                  · have g1I : (X : Int) ≤ 32 := by omega
                    clear g hc hX g1 HV
                    go_wp2_with fail
                    go_ret2
                    rw [HN.out]
                    exact ⟨rfl, HB.out⟩
                  · have g1I : ¬ (X : Int) ≤ 32 := by omega
                    have g2I : (127 : Int) ≤ (X : Int) := by omega
                    clear g hc hX g1 HV
                    go_wp2_with fail
                    go_ret2
                    rw [HN.out]
                    exact ⟨rfl, HB.out⟩
              · as_aux_lemma =>
                obtain rfl : k = n := by omega
                have hkI : ¬ (k : Int) < (k : Int) := by omega
                have XM := Box.mk (may_all (HNM.out.2.trans HF.out.1) (by rw [HNM.out.1]; exact HF.out.2.1) (by rw [HNM.out.1]; exact HF.out.2.2) (by rw [HNM.out.1]; exact KA.out))
                clear hkl hk
                go_wp2_with fail
                go_loopw [5, 9] (fun t i wr => ∃ k2 : Nat, k2 ≤ j ∧ t = .bool (tw || (l.take k2).any (fun y => decide (y.name = x.name))) ∧ i = .int .i64 (k2 : Int) ∧ wo = wr) (fun _ i _ => j - (intOf i).toNat)
                case atStart => exact ⟨0, Nat.zero_le _, by simp, rfl, rfl⟩
                case round =>
                  obtain ⟨k2, hk2, rfl, rfl, rfl⟩ := hrel
                  obtain ⟨o, ho⟩ : ∃ o, o = (tw || (l.take k2).any (fun y => decide (y.name = x.name))) := ⟨_, rfl⟩
                  rw [← ho]
                  by_cases hk3 : k2 < j
                  · as_aux_lemma =>
                    have hk3I : (k2 : Int) < (j : Int) := by omega
                    have hk4I : (k2 : Int) < (l.length : Int) := by omega
                    obtain ⟨y, hy⟩ : ∃ s, l[k2]? = some s := ⟨_, List.getElem?_eq_getElem (by omega)⟩
                    obtain ⟨a2, ha2, HY⟩ := HCELLS.out k2 y hy
                    injection ha2 with ha2
                    subst ha2
                    obtain ⟨p0, p1⟩ := (HY.below HB.out HY.lt).flat
                    have NT : Box ((tw || (l.take (k2 + 1)).any (fun y => decide (y.name = x.name))) = (o || decide (y.name = x.name))) := ⟨by
                      rw [show l.take (k2 + 1) = l.take k2 ++ [y] by rw [List.take_add_one, hy]; rfl, List.any_append, ho]; simp [Bool.or_assoc]⟩
                    have BE := ba_eq y.name x.name
                    obtain ⟨d, hd⟩ : ∃ d, d = decide (y.name = x.name) := ⟨_, rfl⟩
                    rw [← hd] at BE NT
                    clear hy HY ho hd p1
                    cases o with
                    | true =>
                      have NF : Box ((tw || (l.take (k2 + 1)).any (fun y => decide (y.name = x.name))) = true) := ⟨by rw [NT.out]; rfl⟩
                      clear NT
                      go_wp2_with fail
                      exact ⟨⟨k2 + 1, hk3, by rw [NF.out], by go_num, trivial⟩, by simp [intOf]; omega⟩
                    | false =>
                      have NF : Box ((tw || (l.take (k2 + 1)).any (fun y => decide (y.name = x.name))) = d) := ⟨by rw [NT.out]; rfl⟩
                      clear NT
                      go_wp2_with fail
                      exact ⟨⟨k2 + 1, hk3, by rw [NF.out], by go_num, trivial⟩, by simp [intOf]; omega⟩
                  · as_aux_lemma =>
                    obtain rfl : k2 = j := by omega
                    have hk3I : ¬ (k2 : Int) < (k2 : Int) := by omega
                    have hk4I : (k2 : Int) < (l.length : Int) := by have := HLT.out; omega
                    have NTW : Box (o = !onceM (l.take (k2 + 1))) := ⟨by
                      rw [ho, HTW.out, TK.out, once_snoc, any_not_all]
                      cases onceM (l.take k2) <;> cases ((l.take k2).all fun y => decide (y.name ≠ x.name)) <;> rfl⟩
                    have hxs : x.sum.size = 32 := XM.out.sum
                    have HX := Box.mk (fun w => rhex_any x.sum (by rw [hxs]; omega) w)
                    obtain ⟨H, hH⟩ : ∃ H : ByteArray, H = ⟨(hexL x.sum.data.toList).toArray⟩ := ⟨_, rfl⟩
                    rw [← hH] at HX
                    have hHd : H.data.toList = hexL x.sum.data.toList := by rw [hH]
                    have hHs : H.size = 64 := by rw [← ba_len, hHd]; exact SM.hex_len XM.out
                    obtain ⟨T1, hT1⟩ : ∃ T, H ++ (⟨#[32, 32]⟩ : ByteArray) = T := ⟨_, rfl⟩
                    have hT1s : T1.size = 66 := by rw [← hT1, ByteArray.size_append, hHs]; rfl
                    obtain ⟨T2, hT2⟩ : ∃ T, T1 ++ x.name = T := ⟨_, rfl⟩
                    have hk100 : k ≤ 100 := HF.out.2.2
                    have hT2s : T2.size = 66 + k := by rw [← hT2, ByteArray.size_append, hT1s, hne]
                    obtain ⟨T3, hT3⟩ : ∃ T, T2 ++ (⟨#[10]⟩ : ByteArray) = T := ⟨_, rfl⟩
                    have hT3s : T3.size = 67 + k := by rw [← hT3, ByteArray.size_append, hT2s]; show 66 + k + 1 = _; omega
                    obtain ⟨z, hz⟩ : ∃ z, z = TX.size := ⟨_, rfl⟩
                    have hze : TX.size = z := hz.symm
                    have hz4 : z ≤ 4000 := by
                      have := text_len (l.take k2) MAY.out
                      rw [← HTX.out, ba_len, hze, List.length_take] at this
                      have := HLN.out; omega
                    obtain ⟨T4, hT4⟩ : ∃ T, TX ++ T3 = T := ⟨_, rfl⟩
                    have LINE : Box (T4.data.toList = textM (l.take (k2 + 1))) := ⟨by
                      rw [← hT4, ba_app, HTX.out, TK.out, textM_snoc, ← hT3, ba_app, ← hT2, ba_app, ← hT1, ba_app, hHd]; unfold SM.line; simp⟩
                    have hlim1 : ¬ 9223372036854775807 < 66 + k := by omega
                    have hlim2 : ¬ 9223372036854775807 < 66 + k + 1 := by omega
                    have hlim3 : ¬ 9223372036854775807 < z + (67 + k) := by omega
                    clear ho hxs hH hHd hz hk3 hk2
                    go_wp2_with fail
                    refine (HX.out _).mono ?_
                    rintro e w5 ⟨rfl, hb⟩
                    have B5 := Box.mk (HB.out.trans (hb.mono HB.out.size))
                    clear hb q0 q1 HB
                    go_wp2_with fail
                    refine ⟨⟨k2 + 1, T4, HLT.out, rfl, by rw [NTW.out], by go_num, LINE.out, ?_, B5.out⟩, by have := HLT.out; simp [intOf]; omega⟩
                    rw [TK.out]; intro y hy
                    rcases List.mem_append.1 hy with hy | hy
                    · exact MAY.out y hy
                    · rw [List.mem_singleton] at hy; subst hy; exact XM.out
          · as_aux_lemma =>
            have HN : Box (V = .tuple #[.string ⟨#[]⟩, .int .i64 220]) := ⟨by
              rw [HV.out]
              exact prV_may HXL.out (may_bad (by rw [hne, hme]; exact hbad))⟩
            clear HV
            by_cases f1 : m = 32
            · have f1I : ((m : Int) != 32) = false := by rw [bne_eq_false_iff_eq]; omega
              have f1J : ((m : Int) == 32) = true := by rw [beq_iff_eq]; omega
              by_cases f2 : n < 1
              · have f2I : (n : Int) < 1 := by omega
                clear hbad f1 f2 hn hmm SZ
                go_wp2_with fail
                go_ret2
                rw [HN.out]
                exact ⟨rfl, HB.out⟩
              · have f2I : ¬ (n : Int) < 1 := by omega
                have f3I : (100 : Int) < (n : Int) := by omega
                clear hbad f1 f2 hn hmm SZ
                go_wp2_with fail
                go_ret2
                rw [HN.out]
                exact ⟨rfl, HB.out⟩
            · have f1I : ((m : Int) != 32) = true := by rw [bne_iff_ne]; omega
              have f1J : ((m : Int) == 32) = false := by rw [beq_eq_false_iff_ne]; omega
              clear hbad f1 hn hmm SZ
              go_wp2_with fail
              go_ret2
              rw [HN.out]
              exact ⟨rfl, HB.out⟩
        · as_aux_lemma =>
          obtain rfl : j = l.length := by omega
          have hltI : ¬ (l.length : Int) < (l.length : Int) := by omega
          have hm := MAY.out; have ht := HTX.out; have hw := HTW.out
          rw [List.take_length] at hm ht hw
          have PE := Box.mk (prV_once HLN.out.1 HLN.out.2 hm)
          have HT : Box (TX = ⟨(textM l).toArray⟩) := ⟨by rw [← ht]⟩
          clear hm ht MAY HTX HTW hlt hj
          cases ho : onceM l with
          | true =>
            rw [ho] at hw
            have hw2 : tw = false := hw
            subst hw2
            have HN : Box (V = .tuple #[.string TX, .int .i64 0]) := ⟨by rw [HV.out, PE.out, if_pos ho, HT.out]⟩
            clear ho hw HV PE
            go_wp2_with fail
            go_ret2
            rw [HN.out]
            exact ⟨rfl, HB.out⟩
          | false =>
            rw [ho] at hw
            have hw2 : tw = true := hw
            subst hw2
            have HN : Box (V = .tuple #[.string ⟨#[]⟩, .int .i64 221]) := ⟨by rw [HV.out, PE.out, if_neg (by rw [ho]; decide)]⟩
            clear ho hw HV PE
            go_wp2_with fail
            go_ret2
            rw [HN.out]
            exact ⟨rfl, HB.out⟩
end Go.Proofs.Ytafhncpaoolljaa
