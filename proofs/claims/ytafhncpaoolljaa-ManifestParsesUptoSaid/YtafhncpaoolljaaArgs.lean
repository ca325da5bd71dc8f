/- Arguments that are structs: read field by field; what came in reads behind the call as before it. -/
import Derived.Test.YtafhncpaoolljaaBase
import Derived.Deep.Slices
import Derived.Deep.Fields
import Derived.ChangeSame
import Derived.ProofKit
import Derived.OpenShut
import Derived.ShutString
import Derived.ChangeOld
import Derived.Carry
namespace Go.Proofs.Ytafhncpaoolljaa
set_option maxRecDepth 100000
open Go Go.RowKit Go.ChangeShapes Go.WideShapes Go.Deep
set_option linter.unusedVariables false
section
variable {H : Type} {enc : TypeId × Value → H} {P : Program} {w : World} {base : Nat} {spare : Nat → Bool} {held : Bool}

/-- A field's cell has a reading at its type. -/
def Reads (enc : TypeId × Value → H) (P : Program) (w : World) (base : Nat) (spare : Nat → Bool) (held : Bool) (t : TypeId) (v : Value) : Prop :=
  ∃ y n, DataW.trod enc P w base spare held n t [v] = some y

theorem read_fields {t : TypeId} {fs : Array Field} {fuel : Nat} {cs : List Value} {x : DataW H × List MemPlace} (hs : P.underlying t = some (.struct fs)) (hone : oneCellFields P fs = true) (hC : P.cellsOf t = fs.size)
    (h : DataW.trod enc P w base spare held fuel t cs = some x) :
    cs.length = fs.size ∧ ∀ (j : Nat) (f : Field), fs[j]? = some f → ∃ v, cs[j]? = some v ∧ Reads enc P w base spare held f.type v := by
  obtain ⟨ys, n, _, _, hlen, hyl, hf⟩ := DataW.trod_struct hs h
  rw [hC] at hlen
  refine ⟨hlen, fun j f hj => ?_⟩
  obtain ⟨ho, hk⟩ := hone_of hone j f hj
  have hjl : j < fs.size := (Array.getElem?_eq_some_iff.1 hj).1
  have h1 := hf j f hj
  rw [ho, hk] at h1
  have e1 : (cs.drop j).take 1 = [cs[j]'(by omega)] := by
    rw [List.drop_eq_getElem_cons (by omega)]; rfl
  rw [e1] at h1
  exact ⟨cs[j]'(by omega), List.getElem?_eq_getElem (by omega), _, _, h1.trans (List.getElem?_eq_getElem (by omega : j < ys.length))⟩

theorem read_struct {r : Reach} {b0 : Nat} {t : TypeId} {fs : Array Field} {v : Value} {d : DataW H} {p : List MemPlace} (hs : P.underlying t = some (.struct fs)) (hone : oneCellFields P fs = true) (hC : P.cellsOf t = fs.size)
    (hv : Value.okWide P w r b0 t v) (h : DataW.Trod enc P w base spare held t v d p) :
    ∃ cs : Array Value, v = .agg cs ∧ cs.size = fs.size ∧ ∀ (j : Nat) (f : Field), fs[j]? = some f → ∃ c, cs[j]? = some c ∧ Reads enc P w base spare held f.type c := by
  obtain ⟨cs, rfl, hsz⟩ := okWide_struct hs hv
  obtain ⟨fuel, hf⟩ := h
  obtain ⟨hl, hr⟩ := read_fields hs hone hC hf
  refine ⟨cs, rfl, hsz.trans hC, fun j f hj => ?_⟩
  obtain ⟨c, hc, hy⟩ := hr j f hj
  exact ⟨c, by simpa [Value.cells] using hc, hy⟩

theorem Reads.int {t : TypeId} {k : IntKind} {v : Value} (ht : P.underlying t = some (.int k)) (h : Reads enc P w base spare held t v) : ∃ n, v = .int k n ∧ (Lit.int k n).wf = true := by
  obtain ⟨y, n, h⟩ := h
  obtain ⟨m, hm, _, hw⟩ := DataW.trod_int ht h
  simp at hm
  exact ⟨m, hm, hw⟩
theorem Reads.string {t : TypeId} {v : Value} (ht : P.underlying t = some .string) (h : Reads enc P w base spare held t v) : ∃ s, v = .string s ∧ s.size ≤ maxLen := by
  obtain ⟨y, n, h⟩ := h
  obtain ⟨m, hm, _, hw⟩ := DataW.trod_string ht h
  simp at hm
  exact ⟨m, hm, hw⟩
theorem Reads.bool {t : TypeId} {v : Value} (ht : P.underlying t = some .bool) (h : Reads enc P w base spare held t v) : ∃ b, v = .bool b := by
  obtain ⟨y, n, h⟩ := h
  obtain ⟨m, hm, _⟩ := DataW.trod_bool ht h
  simp at hm
  exact ⟨m, hm⟩
/-- A slice: nil, or its length, capacity, and what its elements' cells read. -/
theorem Reads.slice {t e : TypeId} {fs : Array Field} {v : Value} (ht : P.underlying t = some (.slice e)) (he : P.underlying e = some (.struct fs)) (hone : oneCellFields P fs = true) (hC : P.cellsOf e = fs.size)
    (h : Reads enc P w base spare held t v) :
    v = .slice none 0 0 ∨ ∃ (a : Addr) (len cap : Nat), v = .slice (some a) len cap ∧ base ≤ a.block ∧ len ≤ cap ∧ cap ≤ maxLen ∧
      ∀ i, i < len → ∀ (j : Nat) (f : Field), fs[j]? = some f → ∃ c, w.cell? (a.add (i * fs.size + j)) = some c ∧ Reads enc P w base spare held f.type c := by
  obtain ⟨y, n, h⟩ := h
  rcases open_slice ht h with ⟨hcs, _⟩ | ⟨a, len, cap, m, n, D, Pl, hcs, hb, hl, hm, hmm, hx, hi⟩
  · left; simpa using hcs
  · right
    simp at hcs
    refine ⟨a, len, cap, hcs, hb, hl, hm, fun i him j f hj => ?_⟩
    have hi' : i < m := by rw [hmm]; split <;> omega
    obtain ⟨cs', hc, ht'⟩ := hi i hi'
    obtain ⟨hlen, hf⟩ := read_fields he hone hC ht'
    obtain ⟨c, hcj, hr⟩ := hf j f hj
    obtain ⟨_, hcl, hat⟩ := World.cells?_some hc
    have hjl : j < fs.size := (Array.getElem?_eq_some_iff.1 hj).1
    refine ⟨c, ?_, hr⟩
    rw [← Go.Deep.add_add, hC] at *
    have := hat j (by omega)
    rw [this]; exact hcj
end
end Go.Proofs.Ytafhncpaoolljaa
