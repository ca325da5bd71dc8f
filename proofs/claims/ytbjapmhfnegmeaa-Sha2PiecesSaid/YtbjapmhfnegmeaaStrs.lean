/- Arguments that are slices of strings. -/
import Derived.Test.YtbjapmhfnegmeaaArgs
import Derived.SliceStrings
namespace Go.Proofs.Ytbjapmhfnegmeaa
open Go Go.RowKit Go.ChangeShapes Go.WideShapes
set_option linter.unusedVariables false

/-- The slice v holds the strings of l. -/
def Strs (w : World) (v : Value) (l : List ByteArray) : Prop :=
  ∃ (ao : Option Addr) (cap : Nat), v = .slice ao l.length cap ∧ l.length ≤ maxLen ∧ ∀ i s, l[i]? = some s → ∃ a, ao = some a ∧ a.block < w.heap.size ∧ w.cell? (a.add i) = some (.string s) ∧ s.size ≤ maxLen
theorem Strs.below {w w' : World} {v : Value} {l : List ByteArray} (h : Strs w v l) (hb : Below w.heap.size w w') : Strs w' v l := by
  obtain ⟨ao, cap, h1, h2, h3⟩ := h
  refine ⟨ao, cap, h1, h2, fun i s hi => ?_⟩
  obtain ⟨a, e, hl, hc, hs⟩ := h3 i s hi
  have hq : (a.add i).block = a.block := by unfold Addr.add; split <;> rfl
  exact ⟨a, e, Nat.lt_of_lt_of_le hl hb.size, (hb.cell (by rw [hq]; exact hl)).trans hc, hs⟩
theorem open_strs {H : Type} {enc : TypeId × Value → H} {P : Program} {w : World} {base : Nat} {spare : Nat → Bool} {held : Bool} {r : Reach} {b0 : Nat} {t e : TypeId} {v : Value} {d : DataW H} {p : List MemPlace}
    (ht : P.underlying t = some (.slice e)) (he : P.underlying e = some .string) (hc : P.cellsOf e = 1) (hv : Value.okWide P w r b0 t v) (h : DataW.Trod enc P w base spare held t v d p) : ∃ l, Strs w v l := by
  obtain ⟨a0, len, cap, rfl⟩ := okWide_slice ht hv
  obtain ⟨fuel, hf⟩ := h
  rcases open_strings ht he hc hf with ⟨hcs, _⟩ | ⟨a, len', cap', ss, hcs, _, hl, hm, hz, _, hcell, hsz⟩
  · simp [Value.cells] at hcs
    obtain ⟨rfl, rfl, rfl⟩ := hcs
    exact ⟨[], none, 0, rfl, Nat.zero_le _, fun i s h => by simp at h⟩
  · simp [Value.cells] at hcs
    obtain ⟨rfl, rfl, rfl⟩ := hcs
    have hle : len ≤ ss.length := by rw [hz]; split <;> omega
    refine ⟨ss.take len, some a, cap, by rw [List.length_take, Nat.min_eq_left hle], by rw [List.length_take]; omega, fun i s hi => ?_⟩
    have hi' : i < (ss.take len).length := (List.getElem?_eq_some_iff.1 hi).1
    rw [List.length_take] at hi'
    rw [List.getElem?_take] at hi
    rw [if_pos (by omega)] at hi
    have hc := hcell i (by omega)
    rw [List.getD_eq_getElem?_getD, hi] at hc
    have hq : (a.add i).block = a.block := by unfold Addr.add; split <;> rfl
    refine ⟨a, rfl, ?_, hc, hsz s (List.mem_of_getElem? hi)⟩
    rw [← hq]; exact World.block_lt_of_cell? _ _ hc
end Go.Proofs.Ytbjapmhfnegmeaa
