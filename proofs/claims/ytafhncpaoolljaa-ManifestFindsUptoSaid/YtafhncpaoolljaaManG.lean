/- Manifest: the document's Lines. -/
import Derived.Test.YtafhncpaoolljaaManD
namespace Go.Proofs.Ytafhncpaoolljaa
set_option maxRecDepth 100000
set_option linter.unusedVariables false
open Go Go.RowKit

/-- Lines with their ends. -/
def flatB (l : List ByteArray) : List UInt8 := (l.map fun o => o.data.toList ++ [10]).flatten
theorem flatB_snoc (l : List ByteArray) (o : ByteArray) : flatB (l ++ [o]) = flatB l ++ (o.data.toList ++ [10]) := by unfold flatB; simp
/-- What Lines tells. -/
def LinesV (s : ByteArray) (w : World) (e : Ending) (w' : World) : Prop :=
  ∃ (v : Value) (outs : List ByteArray) (tail : List UInt8), e = .returned (.tuple #[v, .bool (decide (tail = []) && decide (0 < s.size))]) ∧ Own w' w.heap.size 9 v outs.length (outs.map Value.string) ∧ v ≠ .slice none 0 0 ∧
    s.data.toList = flatB outs ++ tail ∧ (∀ o ∈ outs, 10 ∉ o.data.toList) ∧ 10 ∉ tail ∧ Below w.heap.size w w'
theorem ba_cutL (s : ByteArray) (i j : Nat) : (s.extract i j).data.toList = (s.data.toList.drop i).take (j - i) := by
  rw [ByteArray.data_extract, Array.toList_extract, List.extract_eq_take_drop]
set_option maxHeartbeats 4000000 in
theorem lines_any (s : ByteArray) (hs : s.size ≤ 1500000) (w : World) : Calls Try.prog 21 #[.string s] w (LinesV s w) := by
  obtain ⟨B, hB⟩ : ∃ B, B = w.heap.size := ⟨_, rfl⟩
  have O0 := Box.mk (show Own (w.alloc (.cells #[] 9)) B 9 (.slice (some ⟨B, 0, none⟩) 0 0) 0 [] by rw [hB]; exact Own.made w 9 #[] 0 w.heap.size (Nat.le_refl _) (by unfold maxLen; omega) rfl)
  have B0 := Box.mk (show Below B w (w.alloc (.cells #[] 9)) by rw [hB]; exact (Below.refl _ _).alloc (Nat.le_refl _) _)
  have HBW := Box.mk hB
  go_enter Try.func21, Try.ntmps21
  go_wp2_with fail
  rw [← hB]
  clear hB
  go_loopw [4, 5, 6] (fun v fr i wr => ∃ (j f : Nat) (x : Value) (outs : List ByteArray), j ≤ s.size ∧ x = v ∧ fr = .int .i64 (f : Int) ∧ i = .int .i64 (j : Int) ∧ f ≤ j ∧ outs.length ≤ j ∧ s.data.toList.take f = flatB outs ∧ (∀ o ∈ outs, 10 ∉ o.data.toList) ∧ 10 ∉ (s.data.toList.drop f).take (j - f) ∧ Own wr B 9 x outs.length (outs.map Value.string) ∧ x ≠ .slice none 0 0 ∧ Below B w wr) (fun _ _ i _ => s.size - (intOf i).toNat)
  case atStart => exact ⟨0, 0, _, [], Nat.zero_le _, rfl, rfl, rfl, Nat.le_refl _, Nat.le_refl _, rfl, (fun o h => by cases h), (by simp), O0.out, by simp, B0.out⟩
  case round =>
    clear O0 B0
    obtain ⟨j, f, v, outs, hj, rfl, rfl, rfl, hfj, hoj, htk, hno, hnt, ho, hv, hb⟩ := hrel
    have OW := Box.mk ho; have HB := Box.mk hb; have NV := Box.mk hv
    have HT := Box.mk (show s.data.toList.take f = flatB outs ∧ (∀ o ∈ outs, 10 ∉ o.data.toList) ∧ 10 ∉ (s.data.toList.drop f).take (j - f) ∧ f ≤ j ∧ outs.length ≤ j from ⟨htk, hno, hnt, hfj, hoj⟩)
    clear ho hb hv htk hno hnt
    by_cases hlt : j < s.size
    · have hjI : (j : Int) < (s.size : Int) := by omega
      obtain ⟨c, hc⟩ : ∃ c, c = s[j] := ⟨_, rfl⟩
      have hce : s[j] = c := hc.symm
      obtain ⟨X, hX⟩ : ∃ X, X = c.toNat := ⟨_, rfl⟩
      have hcX : (c.toNat : Int) = (X : Int) := by rw [hX]
      have MORE : Box ((s.data.toList.drop f).take (j + 1 - f) = (s.data.toList.drop f).take (j - f) ++ [c]) := ⟨by
        rw [show j + 1 - f = (j - f) + 1 by omega, List.take_add_one, List.getElem?_drop, show f + (j - f) = j by omega, List.getElem?_eq_getElem (by rw [ba_len]; exact hlt)]
        show _ ++ [s[j]] = _
        rw [hce]⟩
      by_cases g : X = 10
      · have gI : ((X : Int) == 10) = true := by rw [beq_iff_eq]; omega
        have hc10 : c = 10 := by rw [← UInt8.toNat_inj, ← hX, g]; rfl
        have hfI : (f : Int) ≤ (j : Int) := by omega
        have hjs : (j : Int) ≤ (s.size : Int) := by omega
        have hol : outs.length + 1 ≤ 1000000000 := by omega
        have EX : Box ((s.extract f j).data.toList = (s.data.toList.drop f).take (j - f)) := ⟨ba_cutL s f j⟩
        have TF : Box (s.data.toList.take (j + 1) = flatB (outs ++ [s.extract f j])) := ⟨by
          rw [flatB_snoc, EX.out, ← HT.out.1]
          have e : s.data.toList.take (j + 1) = s.data.toList.take f ++ (s.data.toList.drop f).take (j + 1 - f) := by
            rw [← List.take_add, show f + (j + 1 - f) = j + 1 by omega]
          rw [e, MORE.out, hc10]⟩
        clear hc hX g MORE
        go_wp2_with (at_builtin; refine wpList_app1 (w0 := w) rfl (.tmp 18) (.tmp 23) 49 rfl B 9 (.string ⟨#[]⟩) 16 Try.underlying49 (by kernel_rfl) rfl v outs.length (outs.map Value.string) rfl (OW.out.alloc _) (HB.out.alloc (by have := HB.out.size; have := HBW.out; omega) _) (by have := HB.out.size; have := HBW.out; simp; omega) wr.heap.size (.string (s.extract f j)) rfl (cell_new _ _ _) rfl hol (by decide) ?_)
        intro v' w' hown hb hB hgr hnn
        have HO := Box.mk hown; have HBB := Box.mk hb
        clear hown hb hB hgr OW HB
        go_wp2_with fail
        refine ⟨⟨j + 1, j + 1, v', outs ++ [s.extract f j], by omega, rfl, by go_num, by go_num, Nat.le_refl _, by rw [List.length_append, List.length_singleton]; omega, TF.out, ?_, by simp, ?_, hnn, HBB.out⟩, by simp [intOf]; omega⟩
        · intro o ho
          rcases List.mem_append.1 ho with ho | ho
          · exact HT.out.2.1 o ho
          · rw [List.mem_singleton] at ho; subst ho; rw [EX.out]; exact HT.out.2.2.1
        · rw [List.length_append, List.map_append]; exact HO.out
      · have gI : ((X : Int) == 10) = false := by rw [beq_eq_false_iff_ne]; omega
        have hc10 : c ≠ 10 := by intro e; apply g; rw [hX, e]; rfl
        have NT : Box (10 ∉ (s.data.toList.drop f).take (j + 1 - f)) := ⟨by
          rw [MORE.out, List.mem_append, List.mem_singleton]
          rintro (h | h)
          · exact HT.out.2.2.1 h
          · exact hc10 h.symm⟩
        clear hc hX g MORE hc10
        go_wp2_with fail
        exact ⟨⟨j + 1, f, v, outs, by omega, rfl, rfl, by go_num, by omega, by omega, HT.out.1, HT.out.2.1, NT.out, OW.out, NV.out, HB.out⟩, by simp [intOf]; omega⟩
    · obtain rfl : j = s.size := by omega
      have hjI : ¬ (s.size : Int) < (s.size : Int) := by omega
      have NT : Box (10 ∉ s.data.toList.drop f) := ⟨by
        have := HT.out.2.2.1
        rwa [List.take_of_length_le (by rw [List.length_drop, ba_len]; exact Nat.le_refl _)] at this⟩
      have EQ : Box (s.data.toList = flatB outs ++ s.data.toList.drop f) := ⟨by rw [← HT.out.1, List.take_append_drop]⟩
      have FE : Box (decide (s.data.toList.drop f = []) = decide (f = s.size)) := ⟨by
        rw [Bool.eq_iff_iff, decide_eq_true_iff, decide_eq_true_iff, List.drop_eq_nil_iff, ba_len]
        have := HT.out.2.2.2.1
        omega⟩
      have HN : Box (NV.out = NV.out) := ⟨rfl⟩
      by_cases g : f = s.size
      · have gI : ((f : Int) == (s.size : Int)) = true := by rw [beq_iff_eq]; omega
        have RV : Box ((decide (s.data.toList.drop f = []) && decide (0 < s.size)) = decide (0 < s.size)) := ⟨by rw [FE.out, decide_eq_true g]; rfl⟩
        clear g hlt hj
        go_wp2_with fail
        go_ret2
        refine ⟨v, outs, s.data.toList.drop f, by rw [RV.out]; rfl, HBW.out ▸ OW.out, NV.out, EQ.out, HT.out.2.1, NT.out, HBW.out ▸ HB.out⟩
      · have gI : ((f : Int) == (s.size : Int)) = false := by rw [beq_eq_false_iff_ne]; omega
        have RV : Box ((decide (s.data.toList.drop f = []) && decide (0 < s.size)) = false) := ⟨by rw [FE.out, decide_eq_false g]; rfl⟩
        clear g hlt hj
        go_wp2_with fail
        go_ret2
        refine ⟨v, outs, s.data.toList.drop f, by rw [RV.out]; rfl, HBW.out ▸ OW.out, NV.out, EQ.out, HT.out.2.1, NT.out, HBW.out ▸ HB.out⟩
end Go.Proofs.Ytafhncpaoolljaa
