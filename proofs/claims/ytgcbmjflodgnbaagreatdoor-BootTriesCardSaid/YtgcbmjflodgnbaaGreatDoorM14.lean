/- The boot laws' arguments: a record; records. -/
import Derived.Test.YtgcbmjflodgnbaaGreatDoorM05
import Derived.Test.YtgcbmjflodgnbaaGreatDoorM11
namespace Go.Proofs.YtgcbmjflodgnbaaGreatDoor
set_option maxRecDepth 100000
open Go Go.RowKit Go.ChangeShapes Go.WideShapes Go.Deep
set_option linter.unusedVariables false

structure BR.Wf (r : BR) : Prop where
  slot : -9223372036854775808 ≤ r.slot ∧ r.slot ≤ 9223372036854775807
  count : -9223372036854775808 ≤ r.count ∧ r.count ≤ 9223372036854775807
  s0 : -9223372036854775808 ≤ r.s0 ∧ r.s0 ≤ 9223372036854775807
  s1 : -9223372036854775808 ≤ r.s1 ∧ r.s1 ≤ 9223372036854775807
section
variable {H : Type} {enc : TypeId × Value → H} {w : World} {base : Nat} {spare : Nat → Bool} {held : Bool}
/-- What a record's cells hold. -/
theorem cells_boot {fuel : Nat} {cs : List Value} {x : DataW H × List MemPlace} (h : DataW.trod enc Tryz.prog w base spare held fuel 24 cs = some x) : ∃ r : BR, cs = (brC r).toList ∧ r.Wf := by
  obtain ⟨xs, n, _, _, hlen, hxl, hf⟩ := DataW.trod_struct Tryz.underlying24 h
  have hC : Tryz.prog.cellsOf 24 = 5 := by kernel_rfl
  have h1 : Tryz.prog.cellsOf 3 = 1 := by kernel_rfl
  have h2 : Tryz.prog.cellsOf 4 = 1 := by kernel_rfl
  have h3 : Tryz.prog.cellsOf 22 = 2 := by kernel_rfl
  rw [hC] at hlen
  match cs, hlen with
  | [c0, c1, c2, c3, c4], _ =>
    have g0 := hf 0 _ rfl
    have g1 := hf 1 _ rfl
    have g2 := hf 2 _ rfl
    have g3 := hf 3 _ rfl
    have hx : xs.length = 4 := hxl
    rw [List.getElem?_eq_getElem (by omega)] at g0 g1 g2 g3
    change DataW.trod _ _ _ _ _ _ n 3 (List.take (Tryz.prog.cellsOf 3) _) = _ at g0
    change DataW.trod _ _ _ _ _ _ n 4 (List.take (Tryz.prog.cellsOf 4) _) = _ at g1
    change DataW.trod _ _ _ _ _ _ n 3 (List.take (Tryz.prog.cellsOf 3) _) = _ at g2
    change DataW.trod _ _ _ _ _ _ n 22 (List.take (Tryz.prog.cellsOf 22) _) = _ at g3
    rw [h1] at g0 g2; rw [h2] at g1; rw [h3] at g3
    obtain ⟨a, ha, _, wa⟩ := DataW.trod_int Tryz.underlying3 g0
    obtain ⟨b, hb, _⟩ := DataW.trod_bool Tryz.underlying4 g1
    obtain ⟨c, hc, _, wc⟩ := DataW.trod_int Tryz.underlying3 g2
    obtain ⟨ys, m, _, _, _, hyl, hy⟩ := DataW.trod_array Tryz.underlying22 g3
    have y0 := hy 0 (by omega)
    have y1 := hy 1 (by omega)
    rw [List.getElem?_eq_getElem (by omega), h1] at y0 y1
    obtain ⟨d, hd, _, wd⟩ := DataW.trod_int Tryz.underlying3 y0
    obtain ⟨e, he, _, we⟩ := DataW.trod_int Tryz.underlying3 y1
    simp at ha hb hc hd he
    refine ⟨⟨a, b, c, d, e⟩, ?_, ⟨bounds_i64 wa, bounds_i64 wc, bounds_i64 wd, bounds_i64 we⟩⟩
    simp only [brC]
    rw [ha, hb, hc, hd, he]
theorem open_boot {r : Reach} {b0 : Nat} {v : Value} {d : DataW H} {p : List MemPlace} (hv : Value.okWide Tryz.prog w r b0 24 v) (h : DataW.Trod enc Tryz.prog w base spare held 24 v d p) : ∃ r : BR, v = brV r ∧ r.Wf := by
  obtain ⟨cs, rfl, hsz⟩ := okWide_struct Tryz.underlying24 hv
  obtain ⟨fuel, hf⟩ := h
  obtain ⟨r, hr, wr⟩ := cells_boot hf
  exact ⟨r, by unfold brV; congr 1; exact Array.toList_inj.1 hr, wr⟩
end
end Go.Proofs.YtgcbmjflodgnbaaGreatDoor
