/- The flash: its state, how it lies in memory; what reads or writes its fields alone. -/
import Derived.Test.YtaeomiedmjedgaaRows
import Derived.Test.YtaeomiedmjedgaaMem
namespace Go.Proofs.Ytaeomiedmjedgaa
set_option linter.unusedVariables false
open Go Go.RowKit

/-- A flash's state. -/
structure FS where
  b : List UInt8
  n : List Int
  steps : Int
  armed : Int
  keep : Int
  mask : UInt8
  dead : Bool

def bval (u : UInt8) : Value := .int .u8 (u.toNat : Int)
def nval (n : Int) : Value := .int .i64 n

/-- The numbers are in their bounds. -/
structure FS.Ok (s : FS) : Prop where
  armed : 0 ≤ s.armed ∧ s.armed ≤ 9223372036854775807
  keep : 0 ≤ s.keep ∧ s.keep ≤ 9223372036854775807
  len : s.b.length = 512 * s.n.length
  few : 1 ≤ s.n.length ∧ s.n.length ≤ 256

/-- A flash (its own type is t) at block p, its bytes at bb, its counts at cb. -/
structure Fl (t : TypeId) (w : World) (p bb cb : Nat) (s : FS) : Prop where
  st : ∃ bcap ccap, s.b.length ≤ bcap ∧ s.n.length ≤ ccap ∧ w.heap[p]? = some (.cells #[.slice (some ⟨bb, 0, none⟩) s.b.length bcap, .slice (some ⟨cb, 0, none⟩) s.n.length ccap, .int .i64 s.steps, .int .i64 s.armed, .int .i64 s.keep, .int .u8 (s.mask.toNat : Int), .bool s.dead] t (0, 0))
  by_ : ∃ sp fr, w.heap[bb]? = some (.cells (s.b.map bval ++ sp).toArray 5 fr) ∧ (fr = (0, 0) ∨ s.b.length ≤ fr.1)
  cn : ∃ sp, w.heap[cb]? = some (.cells (s.n.map nval ++ sp).toArray 3 (0, 0))
  d1 : p ≠ bb
  d2 : p ≠ cb
  d3 : bb ≠ cb

theorem Fl.lt {t : TypeId} {w : World} {p bb cb : Nat} {s : FS} (h : Fl t w p bb cb s) : p < w.heap.size ∧ bb < w.heap.size ∧ cb < w.heap.size := by
  obtain ⟨_, _, _, _, h1⟩ := h.st
  obtain ⟨_, _, h2, _⟩ := h.by_
  obtain ⟨_, h3⟩ := h.cn
  exact ⟨(Array.getElem?_eq_some_iff.1 h1).1, (Array.getElem?_eq_some_iff.1 h2).1, (Array.getElem?_eq_some_iff.1 h3).1⟩
theorem Fl.upd {t : TypeId} {w w' : World} {p bb cb : Nat} {s : FS} {S : List Nat} (h : Fl t w p bb cb s) (hu : Upd S w w') (h1 : p ∉ S) (h2 : bb ∉ S) (h3 : cb ∉ S) : Fl t w' p bb cb s := by
  have hl := h.lt
  obtain ⟨a, b, e1, e2, g1⟩ := h.st
  obtain ⟨x, fr, g2, hfr⟩ := h.by_
  obtain ⟨y, g3⟩ := h.cn
  exact ⟨⟨a, b, e1, e2, (hu.block _ hl.1 h1).trans g1⟩, ⟨x, fr, (hu.block _ hl.2.1 h2).trans g2, hfr⟩, ⟨y, (hu.block _ hl.2.2 h3).trans g3⟩, h.d1, h.d2, h.d3⟩

/-- The fields' cells. -/
theorem Fl.cells {t : TypeId} {w : World} {p bb cb : Nat} {s : FS} (h : Fl t w p bb cb s) :
    ∃ bcap ccap, s.b.length ≤ bcap ∧ s.n.length ≤ ccap ∧ w.cell? ⟨p, 0, none⟩ = some (.slice (some ⟨bb, 0, none⟩) s.b.length bcap) ∧ w.cell? ⟨p, 1, none⟩ = some (.slice (some ⟨cb, 0, none⟩) s.n.length ccap) ∧
      w.cell? ⟨p, 2, none⟩ = some (.int .i64 s.steps) ∧ w.cell? ⟨p, 3, none⟩ = some (.int .i64 s.armed) ∧ w.cell? ⟨p, 4, none⟩ = some (.int .i64 s.keep) ∧ w.cell? ⟨p, 5, none⟩ = some (.int .u8 (s.mask.toNat : Int)) ∧ w.cell? ⟨p, 6, none⟩ = some (.bool s.dead) := by
  obtain ⟨a, b, e1, e2, g1⟩ := h.st
  refine ⟨a, b, e1, e2, ?_, ?_, ?_, ?_, ?_, ?_, ?_⟩ <;> (rw [cell_of_row _ _ _ _ _ _ g1]; rfl)
theorem Fl.free {t : TypeId} {w : World} {p bb cb : Nat} {s : FS} (h : Fl t w p bb cb s) (i : Nat) : w.frozen? ⟨p, i, none⟩ = false := by
  obtain ⟨a, b, e1, e2, g1⟩ := h.st
  exact frozen_of_row _ _ _ _ _ g1

/-- A field set. -/
theorem Fl.set2 {t : TypeId} {w : World} {p bb cb : Nat} {s : FS} (h : Fl t w p bb cb s) (v : Int) : Fl t (w.setCell ⟨p, 2, none⟩ (.int .i64 v)) p bb cb { s with steps := v } := by
  obtain ⟨a, b, e1, e2, g1⟩ := h.st
  obtain ⟨x, fr, g2, hfr⟩ := h.by_
  obtain ⟨y, g3⟩ := h.cn
  exact ⟨⟨a, b, e1, e2, by rw [heap_setCell_same _ _ _ _ _ _ g1]; rfl⟩, ⟨x, fr, by rw [heap_setCell_other _ _ _ _ h.d1.symm]; exact g2, hfr⟩, ⟨y, by rw [heap_setCell_other _ _ _ _ h.d2.symm]; exact g3⟩, h.d1, h.d2, h.d3⟩
theorem Fl.set3 {t : TypeId} {w : World} {p bb cb : Nat} {s : FS} (h : Fl t w p bb cb s) (v : Int) : Fl t (w.setCell ⟨p, 3, none⟩ (.int .i64 v)) p bb cb { s with armed := v } := by
  obtain ⟨a, b, e1, e2, g1⟩ := h.st
  obtain ⟨x, fr, g2, hfr⟩ := h.by_
  obtain ⟨y, g3⟩ := h.cn
  exact ⟨⟨a, b, e1, e2, by rw [heap_setCell_same _ _ _ _ _ _ g1]; rfl⟩, ⟨x, fr, by rw [heap_setCell_other _ _ _ _ h.d1.symm]; exact g2, hfr⟩, ⟨y, by rw [heap_setCell_other _ _ _ _ h.d2.symm]; exact g3⟩, h.d1, h.d2, h.d3⟩
theorem Fl.set4 {t : TypeId} {w : World} {p bb cb : Nat} {s : FS} (h : Fl t w p bb cb s) (v : Int) : Fl t (w.setCell ⟨p, 4, none⟩ (.int .i64 v)) p bb cb { s with keep := v } := by
  obtain ⟨a, b, e1, e2, g1⟩ := h.st
  obtain ⟨x, fr, g2, hfr⟩ := h.by_
  obtain ⟨y, g3⟩ := h.cn
  exact ⟨⟨a, b, e1, e2, by rw [heap_setCell_same _ _ _ _ _ _ g1]; rfl⟩, ⟨x, fr, by rw [heap_setCell_other _ _ _ _ h.d1.symm]; exact g2, hfr⟩, ⟨y, by rw [heap_setCell_other _ _ _ _ h.d2.symm]; exact g3⟩, h.d1, h.d2, h.d3⟩
theorem Fl.set5 {t : TypeId} {w : World} {p bb cb : Nat} {s : FS} (h : Fl t w p bb cb s) (v : UInt8) : Fl t (w.setCell ⟨p, 5, none⟩ (.int .u8 (v.toNat : Int))) p bb cb { s with mask := v } := by
  obtain ⟨a, b, e1, e2, g1⟩ := h.st
  obtain ⟨x, fr, g2, hfr⟩ := h.by_
  obtain ⟨y, g3⟩ := h.cn
  exact ⟨⟨a, b, e1, e2, by rw [heap_setCell_same _ _ _ _ _ _ g1]; rfl⟩, ⟨x, fr, by rw [heap_setCell_other _ _ _ _ h.d1.symm]; exact g2, hfr⟩, ⟨y, by rw [heap_setCell_other _ _ _ _ h.d2.symm]; exact g3⟩, h.d1, h.d2, h.d3⟩
theorem Fl.set6 {t : TypeId} {w : World} {p bb cb : Nat} {s : FS} (h : Fl t w p bb cb s) (v : Bool) : Fl t (w.setCell ⟨p, 6, none⟩ (.bool v)) p bb cb { s with dead := v } := by
  obtain ⟨a, b, e1, e2, g1⟩ := h.st
  obtain ⟨x, fr, g2, hfr⟩ := h.by_
  obtain ⟨y, g3⟩ := h.cn
  exact ⟨⟨a, b, e1, e2, by rw [heap_setCell_same _ _ _ _ _ _ g1]; rfl⟩, ⟨x, fr, by rw [heap_setCell_other _ _ _ _ h.d1.symm]; exact g2, hfr⟩, ⟨y, by rw [heap_setCell_other _ _ _ _ h.d2.symm]; exact g3⟩, h.d1, h.d2, h.d3⟩
theorem Fl.to {t : TypeId} {w : World} {p bb cb : Nat} {s s' : FS} (h : Fl t w p bb cb s) (e : s = s') : Fl t w p bb cb s' := e ▸ h

/-- A step is counted: does the power go in it? -/
def FS.step (s : FS) : FS := { s with steps := wrap64 (s.steps + 1), armed := if s.armed = 0 then 0 else s.armed - 1, dead := if s.armed = 0 then s.dead else decide (s.armed - 1 = 0) }
def FS.goes (s : FS) : Bool := if s.armed = 0 then false else decide (s.armed - 1 = 0)

set_option maxHeartbeats 1000000 in
theorem step_any (p bb cb : Nat) (s : FS) (w : World) (h : Fl 75 w p bb cb s) (hok : s.Ok) :
    Calls Try.prog 47 #[.pointer (some ⟨p, 0, none⟩)] w fun e w' => e = .returned (.bool s.goes) ∧ Fl 75 w' p bb cb s.step ∧ Upd [p] w w' := by
  obtain ⟨bcap, ccap, hb, hc, c0, c1, c2, c3, c4, c5, c6⟩ := h.cells
  have f2 := h.free 2; have f3 := h.free 3; have f6 := h.free 6
  have hkeep := hok.armed
  by_cases ha : s.armed = 0
  · have ha' : (s.armed == 0) = true := by simpa using ha
    have HA := Box.mk ha; clear ha
    clear c0 c1 c4 c5
    go_enter Try.func47, Try.ntmps47
    go_wp2
    go_ret
    refine ⟨by simp [FS.goes, HA.out], (h.set2 _).to (by cases s; have := HA.out; simp_all [FS.step]), (Upd.refl _ _).setCell (by simp) _⟩
  · have ha' : (s.armed == 0) = false := by simpa using ha
    have HA := Box.mk ha; clear ha
    clear c0 c1 c4 c5
    go_enter Try.func47, Try.ntmps47
    go_wp2
    go_ret
    refine ⟨?_, (((h.set2 _).set3 _).set6 _).to (by cases s; have := HA.out; simp_all [FS.step]; rfl), (((Upd.refl _ _).setCell (by simp) _).setCell (by simp) _).setCell (by simp) _⟩
    simp only [FS.goes, if_neg HA.out]
    rfl

/-- Do bytes lie on it? -/
@[irreducible] def onB (l : Nat) (at_ n : Int) : Bool := decide (0 ≤ at_ ∧ 0 ≤ n ∧ at_ + n ≤ l)

set_option maxHeartbeats 1000000 in
theorem within_any (p bb cb : Nat) (s : FS) (at_ n : Int) (w : World) (h : Fl 75 w p bb cb s) (hok : s.Ok) (ba : -9223372036854775808 ≤ at_ ∧ at_ ≤ 9223372036854775807) (bn : -9223372036854775808 ≤ n ∧ n ≤ 9223372036854775807) :
    Calls Try.prog 46 #[.pointer (some ⟨p, 0, none⟩), .int .i64 at_, .int .i64 n] w fun e w' => e = .returned (.bool (onB s.b.length at_ n)) ∧ w = w' := by
  obtain ⟨bcap, ccap, hb, hc, c0, c1, c2, c3, c4, c5, c6⟩ := h.cells
  have hlen := hok.len
  have hfew := hok.few
  have hl : (s.b.length : Int) ≤ 131072 := by omega
  clear c1 c2 c3 c4 c5 c6 hlen hfew hc hb
  generalize s.b.length = l at c0 hl ⊢
  by_cases h0 : 0 ≤ at_
  · have h0' : decide (0 ≤ at_) = true := by simpa using h0
    by_cases h1 : 0 ≤ n
    · have h1' : decide (0 ≤ n) = true := by simpa using h1
      by_cases h2 : at_ ≤ l
      · have h2' : decide (at_ ≤ (l : Int)) = true := by simpa using h2
        have E : Box (onB l at_ n = decide (n ≤ (l : Int) - at_)) := ⟨by unfold onB; rw [decide_eq_decide]; omega⟩
        go_enter Try.func46, Try.ntmps46
        go_wp2
        go_ret
        exact ⟨by rw [E.out]; rfl, rfl⟩
      · have h2' : decide (at_ ≤ (l : Int)) = false := by simpa using h2
        have E : Box (onB l at_ n = false) := ⟨by unfold onB; rw [decide_eq_false_iff_not]; omega⟩
        go_enter Try.func46, Try.ntmps46
        go_wp2
        go_ret
        exact ⟨by rw [E.out]; rfl, rfl⟩
    · have h1' : decide (0 ≤ n) = false := by simpa using h1
      have E : Box (onB l at_ n = false) := ⟨by unfold onB; rw [decide_eq_false_iff_not]; omega⟩
      go_enter Try.func46, Try.ntmps46
      go_wp2
      go_ret
      exact ⟨by rw [E.out]; rfl, rfl⟩
  · have h0' : decide (0 ≤ at_) = false := by simpa using h0
    have E : Box (onB l at_ n = false) := ⟨by unfold onB; rw [decide_eq_false_iff_not]; omega⟩
    go_enter Try.func46, Try.ntmps46
    go_wp2
    go_ret
    exact ⟨by rw [E.out]; rfl, rfl⟩

/-- What a step answers. -/
@[irreducible] def toldI (g : Bool) : Int := if g then 2 else 0
theorem told_any (g : Bool) (w : World) :
    Calls Try.prog 48 #[.bool g] w fun e w' => e = .returned (.int .i64 (toldI g)) ∧ w = w' := by
  have e1 : Box (toldI true = 2) := ⟨by unfold toldI; rfl⟩
  have e2 : Box (toldI false = 0) := ⟨by unfold toldI; rfl⟩
  cases g
  · go_enter Try.func48, Try.ntmps48
    go_wp2
    go_ret
    exact ⟨by rw [e2.out]; rfl, rfl⟩
  · go_enter Try.func48, Try.ntmps48
    go_wp2
    go_ret
    exact ⟨by rw [e1.out]; rfl, rfl⟩
end Go.Proofs.Ytaeomiedmjedgaa
