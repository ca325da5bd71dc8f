/- Manifest: a slice of sums that came in. -/
import Derived.Test.YtafhncpaoolljaaManD
import Derived.Test.YtafhncpaoolljaaArgs
import Derived.Test.YtafhncpaoolljaaScript
namespace Go.Proofs.Ytafhncpaoolljaa
set_option maxRecDepth 100000
open Go Go.RowKit Go.ChangeShapes Go.WideShapes Go.Deep
set_option linter.unusedVariables false

section
variable {H : Type} {enc : TypeId × Value → H} {w : World} {base : Nat} {spare : Nat → Bool} {held : Bool}
theorem cells_sm {fuel : Nat} {cs : List Value} {x : DataW H × List MemPlace} (h : DataW.trod enc Try.prog w base spare held fuel 33 cs = some x) : ∃ y : SM, cs = [.string y.name, .string y.sum] ∧ y.name.size ≤ maxLen ∧ y.sum.size ≤ maxLen := by
  obtain ⟨xs, n, _, _, hlen, hxl, hf⟩ := DataW.trod_struct Try.underlying33 h
  have hC : Try.prog.cellsOf 33 = 2 := by kernel_rfl
  have h1 : Try.prog.cellsOf 9 = 1 := by kernel_rfl
  rw [hC] at hlen
  match cs, hlen with
  | [c0, c1], _ =>
    have g0 := hf 0 _ rfl
    have g1 := hf 1 _ rfl
    have hx : xs.length = 2 := hxl
    rw [List.getElem?_eq_getElem (by omega)] at g0 g1
    change DataW.trod _ _ _ _ _ _ n 9 (List.take (Try.prog.cellsOf 9) _) = _ at g0
    change DataW.trod _ _ _ _ _ _ n 9 (List.take (Try.prog.cellsOf 9) _) = _ at g1
    rw [h1] at g0 g1
    obtain ⟨a, ha, _, wa⟩ := DataW.trod_string Try.underlying9 g0
    obtain ⟨b, hb, _, wb⟩ := DataW.trod_string Try.underlying9 g1
    simp at ha hb
    exact ⟨⟨a, b⟩, by rw [ha, hb], wa, wb⟩
theorem open_sums {r : Reach} {b0 : Nat} {v : Value} {d : DataW H} {p : List MemPlace}
    (hv : Value.okWide Try.prog w r b0 22 v) (h : DataW.Trod enc Try.prog w base spare held 22 v d p) : ∃ l, SumsS w v l := by
  obtain ⟨a0, len0, cap0, hv0⟩ := okWide_slice Try.underlying22 hv
  have hvc : v.cells.toList = [v] := by rw [hv0]; rfl
  obtain ⟨fuel, hf⟩ := h
  rw [hvc] at hf
  rcases open_slice Try.underlying22 hf with ⟨hcs, _⟩ | ⟨a, len, cap, m, n, D, Pl, hcs, hb, hl, hm, hmm, hx, hi⟩
  · exact ⟨[], none, 0, by simpa using hcs, Nat.zero_le _, (fun x h => by cases h), fun i o h => by simp at h⟩
  · have hC : Try.prog.cellsOf 33 = 2 := by kernel_rfl
    have hex : ∀ i, i < len → ∃ o : SM, SAt w (a.add (i * 2)) o ∧ o.name.size ≤ maxLen ∧ o.sum.size ≤ maxLen := by
      intro i hil
      obtain ⟨cs', hc, ht'⟩ := hi i (by rw [hmm]; split <;> omega)
      obtain ⟨o, hr, w1, w2⟩ := cells_sm ht'
      obtain ⟨_, hcl, hat⟩ := World.cells?_some hc
      rw [hC] at hat
      have ha : ∀ j, (a.add (i * 2)).add j = a.add (i * 2 + j) := fun j => Go.Deep.add_add a _ _
      have h0 := hat 0 (by omega); have h1 := hat 1 (by omega)
      rw [hr] at h0 h1
      rw [ha] at h0
      exact ⟨o, ⟨by simpa using h0, by simpa using h1⟩, w1, w2⟩
    obtain ⟨l, hll, hP⟩ := exists_list (fun i o => SAt w (a.add (i * 2)) o ∧ o.name.size ≤ maxLen ∧ o.sum.size ≤ maxLen) _ hex
    have hcs' : v = .slice (some a) len cap := by simpa using hcs
    refine ⟨l, some a, cap, by rw [hcs', hll], by omega, fun x hx => ?_, fun i o h => ⟨a, rfl, (hP i o h).1⟩⟩
    obtain ⟨i, hi, rfl⟩ := List.getElem_of_mem hx
    exact (hP i _ (List.getElem?_eq_getElem hi)).2
end
end Go.Proofs.Ytafhncpaoolljaa
