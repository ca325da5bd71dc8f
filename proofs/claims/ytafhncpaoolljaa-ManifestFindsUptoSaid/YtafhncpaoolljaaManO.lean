/- Manifest: strings.Cut at an end of a line, at two blanks: what it tells of a line. -/
import Derived.Test.YtafhncpaoolljaaManN
import Derived.Lib.IndexMore
namespace Go.Proofs.Ytafhncpaoolljaa
set_option maxRecDepth 100000
set_option linter.unusedVariables false
open Go Go.RowKit

theorem index_nl : ∀ s : List UInt8, Lib.index s [10] = match cutL s with | none => -1 | some p => (p.1.length : Int)
  | [] => by simp [Lib.index, cutL]
  | c :: s => by
    rw [Lib.index, cutL]
    by_cases hc : c = 10
    · subst hc
      rw [if_pos (by simp [List.isPrefixOf]), if_pos rfl]; rfl
    · rw [if_neg (by simp [List.isPrefixOf, Ne.symm hc]), if_neg hc, index_nl s]
      cases hs : cutL s with
      | none => simp
      | some p =>
        have hp : ¬ (((p.1.length : Int) == -1) = true) := by rw [beq_iff_eq]; omega
        show (if ((p.1.length : Int) == -1) = true then (-1 : Int) else (p.1.length : Int) + 1) = (((c :: p.1).length : Nat) : Int)
        rw [if_neg hp, List.length_cons]; omega
/-- strings.Cut at an end of a line. -/
theorem cut_nl (s : List UInt8) : Lib.cut s [10] = match cutL s with | none => (s, [], false) | some p => (p.1, p.2, true) := by
  unfold Lib.cut
  rw [index_nl s]
  cases hs : cutL s with
  | none => simp
  | some p =>
    obtain ⟨a, b⟩ := p
    obtain ⟨e, _⟩ := cutL_some hs
    dsimp only
    rw [if_pos (Int.natCast_nonneg _), Int.toNat_natCast, e]
    simp
theorem index_blank : ∀ (a b : List UInt8), (∀ c ∈ a, c ≠ 32) → Lib.index (a ++ 32 :: 32 :: b) [32, 32] = (a.length : Int)
  | [], b, _ => by
    rw [List.nil_append, Lib.index, if_pos (by simp [List.isPrefixOf])]; rfl
  | c :: a, b, h => by
    have hc := h c List.mem_cons_self
    rw [List.cons_append, Lib.index, if_neg (by simp [List.isPrefixOf, Ne.symm hc]), index_blank a b (fun x hx => h x (List.mem_cons_of_mem _ hx))]
    rw [if_neg (by rw [beq_iff_eq]; omega), List.length_cons]; omega
theorem cut_blank (a b : List UInt8) (h : ∀ c ∈ a, c ≠ 32) : Lib.cut (a ++ 32 :: 32 :: b) [32, 32] = (a, b, true) := by
  unfold Lib.cut
  rw [index_blank a b h, if_pos (Int.natCast_nonneg _), Int.toNat_natCast]
  simp
theorem cut_parts {s sep a b : List UInt8} (h : Lib.cut s sep = (a, b, true)) : s = a ++ sep ++ b := by
  unfold Lib.cut at h
  rcases Lib.index_spec s sep with ⟨hi, _⟩ | ⟨i, hi, hl, ho, _⟩
  · rw [hi, if_neg (by omega)] at h; cases h
  · have hr := Lib.index_room s sep (by omega)
    rw [hi, if_pos (by omega), Int.toNat_natCast] at h
    rw [hi] at hr
    simp only [Prod.mk.injEq] at h
    obtain ⟨h1, h2, _⟩ := h
    have h3 := ho
    rw [Lib.occAt_iff_take s sep i (by omega), beq_iff_eq] at h3
    rw [← h1, ← h2]
    have e : s.drop (i + sep.length) = (s.drop i).drop sep.length := by rw [List.drop_drop]
    rw [e, List.append_assoc]
    conv => rhs; rw [show sep ++ List.drop sep.length (List.drop i s) = (s.drop i).take sep.length ++ List.drop sep.length (List.drop i s) by rw [h3]]
    rw [List.take_append_drop, List.take_append_drop]
/-- What the program makes of a line: cut at two blanks, the digits read, the sum looked at. -/
def lineC (s : List UInt8) : Option SM :=
  match unhexL (Lib.cut s [32, 32]).1 with
  | none => none
  | some d => if (Lib.cut s [32, 32]).2.2 = true ∧ (SM.mk ⟨(Lib.cut s [32, 32]).2.1.toArray⟩ ⟨d.toArray⟩).may = true then some ⟨⟨(Lib.cut s [32, 32]).2.1.toArray⟩, ⟨d.toArray⟩⟩ else none
theorem lineC_head {x : SM} (h : x.May) : lineC x.head = some x := by
  have e : x.head = hexL x.sum.data.toList ++ 32 :: 32 :: x.name.data.toList := by unfold SM.head; simp
  unfold lineC
  rw [e, cut_blank _ _ (fun c hc => (hexL_no _ c hc).1)]
  dsimp only
  rw [unhex_hex]
  dsimp only
  have hx : (⟨⟨x.name.data.toList.toArray⟩, ⟨x.sum.data.toList.toArray⟩⟩ : SM) = x := by rw [SM.eq_iff]; exact ⟨by simp, by simp⟩
  rw [hx, if_pos ⟨rfl, (SM.may_iff x).2 h⟩]
theorem lineC_some {s : List UInt8} {x : SM} (h : lineC s = some x) : x.May ∧ x.head = s := by
  unfold lineC at h
  split at h
  · cases h
  · rename_i d hd
    split at h
    · rename_i hc
      injection h with h
      subst h
      refine ⟨(SM.may_iff _).1 hc.2, ?_⟩
      unfold SM.head
      have hp := cut_parts (s := s) (sep := [32, 32]) (a := (Lib.cut s [32, 32]).1) (b := (Lib.cut s [32, 32]).2.1) (by rw [← hc.1])
      show hexL d ++ [32, 32] ++ (Lib.cut s [32, 32]).2.1 = s
      rw [hex_unhex _ _ hd]; exact hp.symm
    · cases h
/-- The program's way and the document's tell the same. -/
theorem lineC_eq (s : List UInt8) : lineC s = lineM s := by
  cases h1 : lineC s with
  | some x =>
    obtain ⟨hm, he⟩ := lineC_some h1
    rw [← he, lineM_head hm]
  | none =>
    cases h2 : lineM s with
    | none => rfl
    | some x =>
      obtain ⟨hm, he⟩ := lineM_some h2
      rw [← he, lineC_head hm] at h1; cases h1
end Go.Proofs.Ytafhncpaoolljaa
