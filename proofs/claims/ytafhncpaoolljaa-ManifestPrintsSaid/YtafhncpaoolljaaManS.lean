/- Manifest: the set of names that Print makes; the Builder and that map side by side. -/
import Derived.Test.YtafhncpaoolljaaManD
import Derived.Maps.OwnSet
namespace Go.Proofs.Ytafhncpaoolljaa
set_option maxRecDepth 100000
set_option linter.unusedVariables false
open Go Go.RowKit

def nmD (l : List SM) : DataW Unit := l.foldl (fun D x => D.put (.string x.name.data.toList) (.lit (.bool true))) (.map [])
theorem nm_snoc (l : List SM) (x : SM) : nmD (l ++ [x]) = (nmD l).put (.string x.name.data.toList) (.lit (.bool true)) := by unfold nmD; rw [List.foldl_append]; rfl
theorem key_str (l : List UInt8) : WideAt.IsKeyLit (.string l) := by simp [WideAt.IsKeyLit]
theorem rev_ind {Q : List SM → Prop} (h0 : Q []) (h1 : ∀ l x, Q l → Q (l ++ [x])) (l : List SM) : Q l := by
  have h : ∀ r : List SM, Q r.reverse := by
    intro r
    induction r with
    | nil => exact h0
    | cons x r ih => rw [List.reverse_cons]; exact h1 _ _ ih
  have := h l.reverse
  rwa [List.reverse_reverse] at this
theorem nm_tidy (l : List SM) : Maps.Tidy (nmD l) := by
  refine rev_ind (Q := fun l => Maps.Tidy (nmD l)) ⟨[], rfl, by simp⟩ (fun l x ih => ?_) l
  rw [nm_snoc]; exact ih.put (key_str _) _
theorem name_eq (a b : ByteArray) : (Lit.string a.data.toList = Lit.string b.data.toList) ↔ a = b := by
  constructor
  · intro h; injection h with h; cases a; cases b; simpa using h
  · rintro rfl; rfl
theorem nm_has (l : List SM) (n : ByteArray) : Maps.has (nmD l) (.string n.data.toList) = l.any (fun y => decide (y.name = n)) := by
  refine rev_ind (Q := fun l => Maps.has (nmD l) (.string n.data.toList) = l.any (fun y => decide (y.name = n))) rfl (fun l x ih => ?_) l
  · rw [nm_snoc, List.any_append]
    by_cases h : x.name = n
    · rw [← h, Maps.has_put_same (nm_tidy l).isMap (key_str _)]; simp
    · rw [Maps.has_put_other (by intro e; exact h ((name_eq _ _).1 e).symm), ih]; simp [h]
theorem nm_size (l : List SM) : Maps.size (nmD l) = distM l := by
  refine rev_ind (Q := fun l => Maps.size (nmD l) = distM l) rfl (fun l x ih => ?_) l
  · rw [nm_snoc, Maps.size_put (nm_tidy l), nm_has, dist_snoc, ih]
    split <;> rfl
theorem grownBy_of {w w' : World} (h : Below w.heap.size w w') (row : Option Nat) : w.grownBy w' row := ⟨h.os, h.tape, h.output, h.size, fun k hk _ => h.block k hk⟩
/-- A Builder stays where its blocks stay. -/
theorem bf_kept {T e : TypeId} {B b : Nat} {bs : List Value} {w w' : World} {row : Option Nat} (h : Lib.IsBuilderF T e B b bs w) (hg : w.grownBy w' row) (hb : some b ≠ row) (hr : ∀ v : Value, (∃ c fz g, v.ownBlock = some g ∧ w.heap[g]? = some (.cells c e fz)) → v.ownBlock ≠ row) : Lib.IsBuilderF T e B b bs w' := by
  have one : ∀ p, Lib.BuilderAtF T e B b p bs w → Lib.BuilderAtF T e B b p bs w' := by
    rintro p ⟨h1, v, h2, h3, h4⟩
    refine ⟨h1, v, (hg.block b (Array.getElem?_eq_some_iff.1 h2).1 hb).trans h2, h3.kept hg ?_, h4⟩
    cases hv : v.ownBlock with
    | none => exact .inl rfl
    | some g =>
      obtain ⟨c, fz, hc⟩ := Lib.ownsRowF_kind h3 g hv
      exact .inr (by rw [← hv]; exact hr v ⟨c, fz, g, hv, hc⟩)
  exact h.elim (fun h => .inl (one _ h)) (fun h => .inr (one _ h))
theorem bf_below {T e : TypeId} {B b : Nat} {bs : List Value} {w w' : World} (h : Lib.IsBuilderF T e B b bs w) (hg : Below w.heap.size w w') : Lib.IsBuilderF T e B b bs w' :=
  bf_kept h (grownBy_of hg none) (by simp) (fun v ⟨c, fz, g, hv, _⟩ => by rw [hv]; simp)
theorem map_others {P : Program} {k : TypeId} {R : Value → Option (DataW Unit × List MemPlace)} {b n e B : Nat} {D : DataW Unit} {w w' : World} (h : w.ownsMap P k R b n D) (hk : Lib.OthersKept e (some B) w w') (hne : b ≠ B) : w'.ownsMap P k R b n D := by
  obtain ⟨es, clock, hb, F, hs, hD⟩ := h
  exact ⟨es, clock, hk b _ hb (by simpa using hne) (fun c fz h => by cases h), F, hs, hD⟩
theorem bf_map {T e : TypeId} {B b m : Nat} {bs : List Value} {w w' : World} {P : Program} {k : TypeId} {R : Value → Option (DataW Unit × List MemPlace)} {n : Nat} {D : DataW Unit} (h : Lib.IsBuilderF T e B b bs w) (hm : w.ownsMap P k R m n D) (hg : w.grownBy w' (some m)) (hne : b ≠ m) : Lib.IsBuilderF T e B b bs w' := by
  obtain ⟨es, clock, hb, _⟩ := hm
  refine bf_kept h hg (by simpa using hne) ?_
  rintro v ⟨c, fz, g, hv, hc⟩
  rw [hv]
  intro e
  injection e with e
  subst e
  rw [hb] at hc; cases hc
theorem text_len : ∀ l : List SM, (∀ x ∈ l, x.May) → (textM l).length ≤ 200 * l.length
  | [], _ => by simp [textM]
  | x :: l, h => by
    have := text_len l (fun y hy => h y (List.mem_cons_of_mem _ hy))
    have hx := h x List.mem_cons_self
    have h1 := SM.hex_len hx
    have h2 := hx.few
    rw [textM_cons, List.length_append, List.length_cons, List.length_cons]
    unfold SM.head
    simp only [List.length_append, List.length_cons, List.length_nil, h1]
    rw [ba_len]; omega
end Go.Proofs.Ytafhncpaoolljaa
