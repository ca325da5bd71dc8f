/- Manifest: what the document's Parse makes of lines, plainly. -/
import Derived.Test.YtafhncpaoolljaaManG
namespace Go.Proofs.Ytafhncpaoolljaa
set_option maxRecDepth 100000
set_option linter.unusedVariables false
open Go Go.RowKit

/-- All lines' sums, if each line is one. -/
def allM : List ByteArray → Option (List SM)
  | [] => some []
  | o :: l => match lineM o.data.toList with
    | none => none
    | some x => (allM l).map (x :: ·)
theorem flatB_cons (o : ByteArray) (l : List ByteArray) : flatB (o :: l) = o.data.toList ++ 10 :: flatB l := by unfold flatB; simp
theorem lns_flat : ∀ (outs : List ByteArray) (tail : List UInt8), (∀ o ∈ outs, 10 ∉ o.data.toList) → 10 ∉ tail → lns (flatB outs ++ tail) = match allM outs with | none => none | some l => if tail = [] then some l else none
  | [], tail, _, ht => by
    show lns tail = if tail = [] then some [] else none
    by_cases h : tail = []
    · rw [if_pos h, h, lns_nil]
    · rw [if_neg h]
      refine lns_none h ?_
      cases hc : cutL tail with
      | none => rfl
      | some p =>
        obtain ⟨a, b⟩ := p
        have := (cutL_some hc).1
        exact absurd (by rw [this]; simp) ht
  | o :: outs, tail, ho, ht => by
    have h1 := ho o List.mem_cons_self
    have hc : cutL (flatB (o :: outs) ++ tail) = some (o.data.toList, flatB outs ++ tail) := by
      rw [flatB_cons, List.append_assoc, List.cons_append, cutL_mk _ _ h1]
    cases hl : lineM o.data.toList with
    | none => rw [lns_bad hc hl, allM, hl]
    | some x =>
      rw [lns_step hc hl, lns_flat outs tail (fun o h => ho o (List.mem_cons_of_mem _ h)) ht, allM, hl]
      dsimp only
      cases allM outs with
      | none => rfl
      | some l => dsimp only; split <;> rfl
/-- A line's sum, as the document takes it: whether it may be is not asked. -/
def lineD (s : List UInt8) : Option SM :=
  match unhexL (s.take 64) with
  | none => none
  | some d => if 67 ≤ s.length ∧ (s.drop 64).take 2 = [32, 32] then some ⟨⟨(s.drop 66).toArray⟩, ⟨d.toArray⟩⟩ else none
theorem lineM_D (s : List UInt8) : lineM s = match lineD s with | none => none | some x => if x.may = true then some x else none := by
  unfold lineM lineD
  cases unhexL (s.take 64) with
  | none => rfl
  | some d =>
    dsimp only
    by_cases h : 67 ≤ s.length ∧ (s.drop 64).take 2 = [32, 32]
    · rw [if_pos h]
      dsimp only
      by_cases hm : (SM.mk ⟨(s.drop 66).toArray⟩ ⟨d.toArray⟩).may = true
      · rw [if_pos ⟨h.1, h.2, hm⟩, if_pos hm]
      · rw [if_neg (by intro e; exact hm e.2.2), if_neg hm]
    · rw [if_neg h, if_neg (by intro e; exact h ⟨e.1, e.2.1⟩)]
def allD : List ByteArray → Option (List SM)
  | [] => some []
  | o :: l => match lineD o.data.toList with
    | none => none
    | some x => (allD l).map (x :: ·)
theorem allM_D : ∀ outs : List ByteArray, allM outs = match allD outs with | none => none | some l => if l.all SM.may = true then some l else none
  | [] => rfl
  | o :: outs => by
    rw [allM, allD, lineM_D, allM_D outs]
    cases lineD o.data.toList with
    | none => rfl
    | some x =>
      dsimp only
      cases hm : x.may with
      | false =>
        rw [if_neg (by decide)]
        cases allD outs with
        | none => rfl
        | some l => simp [hm]
      | true =>
        rw [if_pos rfl]
        dsimp only
        cases allD outs with
        | none => rfl
        | some l =>
          simp only [Option.map_some, List.all_cons, hm, Bool.true_and]
          split <;> rfl
theorem allD_len : ∀ (outs : List ByteArray) (l : List SM), allD outs = some l → l.length = outs.length
  | [], l, h => by rw [allD] at h; injection h with h; rw [← h]; rfl
  | o :: outs, l, h => by
    rw [allD] at h
    cases hl : lineD o.data.toList with
    | none => rw [hl] at h; cases h
    | some x =>
      rw [hl] at h
      dsimp only at h
      cases ha : allD outs with
      | none => rw [ha] at h; cases h
      | some r =>
        rw [ha] at h
        injection h with h
        rw [← h, List.length_cons, List.length_cons, allD_len outs r ha]
/-- What the document's Parse tells, by its lines. -/
theorem parse_lines {S tail : List UInt8} {outs : List ByteArray} (hS : S = flatB outs ++ tail) (ho : ∀ o ∈ outs, 10 ∉ o.data.toList) (ht : 10 ∉ tail) :
    parseM 220 221 S = if tail = [] ∧ outs ≠ [] then (match allD outs with | none => ([], 220) | some l => if (printM 220 221 l).2 = 0 then (l, 0) else ([], (printM 220 221 l).2)) else ([], 220) := by
  rw [parseM_eq, hS, lns_flat outs tail ho ht, allM_D]
  by_cases h : tail = []
  · by_cases h2 : outs = []
    · rw [if_neg (by intro e; exact e.2 h2), h2, h]
      show (if (printM 220 221 []).2 = 0 then _ else _) = _
      rw [printM_none]; rfl
    · rw [if_pos ⟨h, h2⟩]
      cases allD outs with
      | none => rfl
      | some l =>
        dsimp only
        by_cases hm : l.all SM.may = true
        · rw [if_pos hm]; dsimp only; rw [if_pos h]
        · rw [if_neg hm]
          dsimp only
          have hp : printM 220 221 l = ([], 220) := by
            unfold printM
            by_cases h1 : l.length < 1 ∨ 16 < l.length
            · rw [if_pos h1]
            · rw [if_neg h1, if_pos (by simpa using hm)]
          rw [hp]; rfl
  · rw [if_neg (by intro e; exact h e.1)]
    cases allD outs with
    | none => rfl
    | some l =>
      dsimp only
      by_cases hm : l.all SM.may = true
      · rw [if_pos hm]; dsimp only; rw [if_neg h]
      · rw [if_neg hm]
end Go.Proofs.Ytafhncpaoolljaa
