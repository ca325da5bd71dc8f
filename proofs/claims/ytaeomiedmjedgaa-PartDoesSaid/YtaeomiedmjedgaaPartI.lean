/- The argument of the laws of part: how many blocks, a region, a script. -/
import Derived.Test.YtaeomiedmjedgaaPartH
import Derived.Test.YtaeomiedmjedgaaScript
namespace Go.Proofs.Ytaeomiedmjedgaa
open Go Go.RowKit Go.ChangeShapes Go.WideShapes Go.Deep
set_option linter.unusedVariables false

theorem open_pw {H : Type} {enc : TypeId × Value → H} {w : World} {base : Nat} {spare : Nat → Bool} {held : Bool} {v : Value} {d : DataW H} {p : List MemPlace}
    (hv : Value.okWide Try.prog w .any base 45 v) (h : DataW.Trod enc Try.prog w 0 spare held 45 v d p) :
    ∃ (x F B : Int) (sl : Value) (l : List OpR), v = .agg #[.int .i64 x, .int .i64 F, .int .i64 B, sl] ∧ (Lit.int .i64 x).wf = true ∧ (Lit.int .i64 F).wf = true ∧ (Lit.int .i64 B).wf = true ∧ Script w sl l := by
  obtain ⟨cs, rfl, hsz⟩ := okWide_struct Try.underlying45 hv
  rw [show Try.prog.cellsOf 45 = 4 by kernel_rfl] at hsz
  obtain ⟨fuel, hf⟩ := h
  obtain ⟨cl⟩ := cs
  match cl, hsz with
  | [a, b, c, e], _ =>
    obtain ⟨xs, n, _, _, hlen, hxl, hfi⟩ := DataW.trod_struct Try.underlying45 hf
    have t0 := hfi 0 _ rfl
    have t1 := hfi 1 _ rfl
    have t2 := hfi 2 _ rfl
    have hx3 : xs.length = 3 := hxl
    have e0 : (((Value.agg (#[a, b, c, e] : Array Value)).cells.toList.drop 0).take (Try.prog.cellsOf 3)) = [a] := by rw [show Try.prog.cellsOf 3 = 1 by kernel_rfl]; rfl
    have e1 : (((Value.agg (#[a, b, c, e] : Array Value)).cells.toList.drop 1).take (Try.prog.cellsOf 28)) = [b, c] := by rw [show Try.prog.cellsOf 28 = 2 by kernel_rfl]; rfl
    have e2 : (((Value.agg (#[a, b, c, e] : Array Value)).cells.toList.drop 3).take (Try.prog.cellsOf 43)) = [e] := by rw [show Try.prog.cellsOf 43 = 1 by kernel_rfl]; rfl
    have r0 : Reads enc Try.prog w 0 spare held 3 a := ⟨_, _, (e0 ▸ t0).trans (List.getElem?_eq_getElem (by omega : 0 < xs.length))⟩
    have r2 : Reads enc Try.prog w 0 spare held 43 e := ⟨_, _, (e2 ▸ t2).trans (List.getElem?_eq_getElem (by omega : 2 < xs.length))⟩
    have h1 := (e1 ▸ t1).trans (List.getElem?_eq_getElem (by omega : 1 < xs.length))
    obtain ⟨_, hr⟩ := read_fields Try.underlying28 (by kernel_rfl) (by kernel_rfl) h1
    obtain ⟨b', hb', rb⟩ := hr 0 _ rfl
    obtain ⟨c', hc', rc⟩ := hr 1 _ rfl
    obtain rfl : b = b' := by simpa using hb'
    obtain rfl : c = c' := by simpa using hc'
    obtain ⟨x, rfl, wx⟩ := r0.int Try.underlying3
    obtain ⟨F, rfl, wF⟩ := rb.int Try.underlying3
    obtain ⟨B, rfl, wB⟩ := rc.int Try.underlying3
    obtain ⟨l, hl⟩ := Script.of_reads Try.underlying43 Try.underlying47 (by kernel_rfl) (by kernel_rfl) rfl rfl rfl rfl rfl Try.underlying3 Try.underlying9 Try.underlying5 r2
    exact ⟨x, F, B, e, l, rfl, wx, wF, wB, hl⟩
/-- The argument's block. -/
structure ArgW (w wr : World) (x F B : Int) (sl : Value) : Prop where
  g : wr.heap[w.heap.size]? = some (.cells #[.int .i64 x, .int .i64 F, .int .i64 B, sl] 45 (0, 0))
  b : Below w.heap.size w wr
theorem ArgW.cells {w wr : World} {x F B : Int} {sl : Value} (h : ArgW w wr x F B sl) : wr.cell? ⟨w.heap.size, 0, none⟩ = some (.int .i64 x) ∧ wr.cell? ⟨w.heap.size, 1, none⟩ = some (.int .i64 F) ∧ wr.cell? ⟨w.heap.size, 2, none⟩ = some (.int .i64 B) ∧ wr.cell? ⟨w.heap.size, 3, none⟩ = some sl := by
  refine ⟨?_, ?_, ?_, ?_⟩ <;> (rw [cell_of_row _ _ _ _ _ _ h.g]; rfl)
theorem ArgW.upd {w wr w' : World} {x F B : Int} {sl : Value} (h : ArgW w wr x F B sl) {S : List Nat} (hu : Upd S wr w') (hS : ∀ i, i ∈ S → w.heap.size < i) : ArgW w w' x F B sl := by
  have hl := (Array.getElem?_eq_some_iff.1 h.g).1
  exact ⟨(hu.block _ hl (fun hm => by have := hS _ hm; omega)).trans h.g, Upd.below h.b hu (fun i hi => by have := hS i hi; omega) h.b.size⟩
theorem ArgW.start (w : World) (x F B : Int) (sl : Value) : ArgW w (w.alloc (.cells #[.int .i64 x, .int .i64 F, .int .i64 B, sl] 45)) x F B sl := ⟨heap_alloc_new _ _, (Below.refl _ _).alloc (Nat.le_refl _) _⟩
end Go.Proofs.Ytaeomiedmjedgaa
