/- Manifest: the texts' lines one by one; names that are each their own. -/
import Derived.Test.YtafhncpaoolljaaManO
namespace Go.Proofs.Ytafhncpaoolljaa
set_option maxRecDepth 100000
set_option linter.unusedVariables false
open Go Go.RowKit

theorem linesM_fuel : ∀ (n m : Nat) (s : List UInt8), s.length < n → s.length < m → linesM n s = linesM m s
  | 0, _, _, h, _ => absurd h (Nat.not_lt_zero _)
  | _, 0, _, _, h => absurd h (Nat.not_lt_zero _)
  | n + 1, m + 1, s, h1, h2 => by
    rw [linesM, linesM]
    by_cases hs : s = []
    · rw [if_pos hs, if_pos hs]
    · rw [if_neg hs, if_neg hs]
      cases hc : cutL s with
      | none => rfl
      | some p =>
        obtain ⟨a, b⟩ := p
        have := cutL_len hc
        dsimp only
        cases lineM a with
        | none => rfl
        | some x => dsimp only; rw [linesM_fuel n m b (by omega) (by omega)]
/-- The sums of a text's lines. -/
def lns (s : List UInt8) : Option (List SM) := linesM (s.length + 1) s
theorem lns_nil : lns [] = some [] := by unfold lns; rw [linesM]; exact if_pos rfl
theorem lns_none {s : List UInt8} (hs : s ≠ []) (hc : cutL s = none) : lns s = none := by
  unfold lns; rw [linesM, if_neg hs, hc]
theorem lns_bad {s a b : List UInt8} (hc : cutL s = some (a, b)) (hl : lineM a = none) : lns s = none := by
  have hs : s ≠ [] := by intro h; subst h; cases hc
  unfold lns; rw [linesM, if_neg hs, hc]; dsimp only; rw [hl]
theorem lns_step {s a b : List UInt8} {x : SM} (hc : cutL s = some (a, b)) (hl : lineM a = some x) : lns s = (lns b).map (x :: ·) := by
  have hs : s ≠ [] := by intro h; subst h; cases hc
  have := cutL_len hc
  unfold lns; rw [linesM, if_neg hs, hc]; dsimp only; rw [hl]; dsimp only
  rw [linesM_fuel s.length (b.length + 1) b (by omega) (by omega)]
theorem parseM_eq (F T : Int) (s : List UInt8) : parseM F T s = match lns s with | none => ([], F) | some l => if (printM F T l).2 = 0 then (l, 0) else ([], (printM F T l).2) := rfl
/-- What stands in the middle of a text: some sums are told, the rest is to come. -/
def restM (F T : Int) (l : List SM) (s : List UInt8) : List SM × Int :=
  match lns s with
  | none => ([], F)
  | some r => if (printM F T (l ++ r)).2 = 0 then (l ++ r, 0) else ([], (printM F T (l ++ r)).2)
theorem restM_start (F T : Int) (s : List UInt8) : restM F T [] s = parseM F T s := by
  rw [parseM_eq]; rfl
theorem restM_end (F T : Int) (l : List SM) : restM F T l [] = if (printM F T l).2 = 0 then (l, 0) else ([], (printM F T l).2) := by
  unfold restM; rw [lns_nil]; dsimp only; rw [List.append_nil]
theorem restM_none {F T : Int} {l : List SM} {s : List UInt8} (hs : s ≠ []) (hc : cutL s = none) : restM F T l s = ([], F) := by
  unfold restM; rw [lns_none hs hc]
theorem restM_bad {F T : Int} {l : List SM} {s a b : List UInt8} (hc : cutL s = some (a, b)) (hl : lineM a = none) : restM F T l s = ([], F) := by
  unfold restM; rw [lns_bad hc hl]
theorem restM_step {F T : Int} {l : List SM} {s a b : List UInt8} {x : SM} (hc : cutL s = some (a, b)) (hl : lineM a = some x) : restM F T l s = restM F T (l ++ [x]) b := by
  unfold restM; rw [lns_step hc hl]
  cases lns b with
  | none => rfl
  | some r => simp
theorem printM_long (F T : Int) {l : List SM} (h : 16 < l.length) : printM F T l = ([], F) := by
  unfold printM; rw [if_pos (.inr h)]
theorem printM_none (F T : Int) : printM F T [] = ([], F) := by
  unfold printM; rw [if_pos (.inl (by simp))]
theorem restM_long {F T : Int} (hF : F ≠ 0) {l : List SM} {s : List UInt8} (h : 16 < l.length) : restM F T l s = ([], F) := by
  unfold restM
  cases lns s with
  | none => rfl
  | some r =>
    dsimp only
    rw [printM_long F T (show 16 < (l ++ r).length by rw [List.length_append]; omega), if_neg hF]
theorem once_snoc : ∀ (l : List SM) (x : SM), onceM (l ++ [x]) = (onceM l && l.all (fun y => decide (y.name ≠ x.name)))
  | [], x => by simp [onceM]
  | y :: l, x => by
    rw [List.cons_append, onceM, onceM, once_snoc l x, List.all_append, List.all_cons]
    have e : (decide (x.name ≠ y.name)) = decide (y.name ≠ x.name) := by
      rw [Bool.eq_iff_iff, decide_eq_true_iff, decide_eq_true_iff]; exact ⟨Ne.symm, Ne.symm⟩
    simp only [List.all_cons, List.all_nil, Bool.and_true]
    rw [e]
    cases (l.all fun z => decide (z.name ≠ y.name)) <;> cases onceM l <;> cases (l.all fun z => decide (z.name ≠ x.name)) <;> cases decide (y.name ≠ x.name) <;> rfl
theorem textM_snoc (l : List SM) (x : SM) : textM (l ++ [x]) = textM l ++ x.line := by
  unfold textM; simp
/-- How many names there are, each counted once: first to last. -/
def namesM : List SM → Nat
  | [] => 0
  | x :: l => namesM l + (if l.any (fun y => decide (y.name = x.name)) then 0 else 1)
theorem any_not_all (l : List SM) (x : SM) : (l.any (fun y => decide (y.name = x.name))) = !(l.all (fun y => decide (y.name ≠ x.name))) := by
  rw [List.any_eq_not_all_not]
  congr 1; congr 1; funext y
  by_cases h : y.name = x.name <;> simp [h]
theorem names_le : ∀ l : List SM, namesM l ≤ l.length
  | [] => Nat.le_refl _
  | x :: l => by have := names_le l; rw [namesM, List.length_cons]; split <;> omega
theorem names_once : ∀ l : List SM, namesM l = l.length ↔ onceM l = true
  | [] => by simp [namesM, onceM]
  | x :: l => by
    have h1 := names_once l
    have h2 := names_le l
    rw [namesM, onceM, List.length_cons, any_not_all, Bool.and_eq_true]
    cases (l.all fun y => decide (y.name ≠ x.name)) with
    | true =>
      rw [if_neg (by decide)]
      rw [← h1]; constructor
      · intro h; exact ⟨rfl, by omega⟩
      · rintro ⟨_, h⟩; omega
    | false =>
      rw [if_pos (by decide)]
      constructor
      · intro h; omega
      · rintro ⟨h, _⟩; cases h
/-- .. in the order in which they come. -/
def distM (l : List SM) : Nat := namesM l.reverse
theorem dist_nil : distM [] = 0 := rfl
theorem dist_snoc (l : List SM) (x : SM) : distM (l ++ [x]) = distM l + (if l.any (fun y => decide (y.name = x.name)) then 0 else 1) := by
  unfold distM
  rw [List.reverse_append, List.reverse_singleton, List.singleton_append, namesM, List.any_reverse]
theorem dist_le (l : List SM) : distM l ≤ l.length := by
  have := names_le l.reverse
  rwa [List.length_reverse] at this
theorem names_once_rev : ∀ r : List SM, namesM r = r.length ↔ onceM r.reverse = true
  | [] => by simp [namesM, onceM]
  | x :: r => by
    have h1 := names_once_rev r
    have h2 := names_le r
    rw [namesM, List.reverse_cons, once_snoc, List.length_cons, any_not_all, Bool.and_eq_true, List.all_reverse]
    cases (r.all fun y => decide (y.name ≠ x.name)) with
    | true =>
      rw [if_neg (by decide), ← h1]; constructor
      · intro h; exact ⟨by omega, rfl⟩
      · rintro ⟨h, _⟩; omega
    | false =>
      rw [if_pos (by decide)]
      constructor
      · intro h; omega
      · rintro ⟨_, h⟩; cases h
theorem dist_once (l : List SM) : distM l = l.length ↔ onceM l = true := by
  have := names_once_rev l.reverse
  rwa [List.length_reverse, List.reverse_reverse] at this
end Go.Proofs.Ytafhncpaoolljaa
