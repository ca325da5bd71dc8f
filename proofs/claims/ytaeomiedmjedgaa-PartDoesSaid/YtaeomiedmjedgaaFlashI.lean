/- The flash: what a flash does of which no step is torn: plain laws. -/
import Derived.Test.YtaeomiedmjedgaaFlashH
namespace Go.Proofs.Ytaeomiedmjedgaa
set_option linter.unusedVariables false
open Go Go.RowKit

/-- No failure is laid, the power is on. -/
structure FS.Still (s : FS) : Prop where
  armed : s.armed = 0
  dead : s.dead = false

theorem andBytes_any (b : List UInt8) (A : Nat) (l : List UInt8) (k : Int) (m : UInt8) : progBytes b A l false k m = progBytes b A l false 0 0 := by
  simp only [progBytes, progByte, true_or, if_true]
theorem fullErase_any (b : List UInt8) (A m : Nat) (k : Int) (c : UInt8) : eraseUpto b A m false k c = eraseUpto b A m false 0 0 := by
  simp only [eraseUpto, eraseByte, true_or, if_true]

/-- What Program answers, and whether it does something, at so many bytes. -/
def ansP (n : Nat) (at_ : Int) (l : List UInt8) : Int := if onB n at_ l.length = false then 111 else if l = [] then 0 else if at_ / 64 ≠ (at_ + l.length - 1) / 64 then 112 else 0
def actP (n : Nat) (at_ : Int) (l : List UInt8) : Bool := if onB n at_ l.length = false then false else if l = [] then false else if at_ / 64 ≠ (at_ + l.length - 1) / 64 then false else true
def progS (b : List UInt8) (at_ : Int) (l : List UInt8) : List UInt8 := if actP b.length at_ l then progBytes b at_.toNat l false 0 0 else b
theorem progS_length (b : List UInt8) (at_ : Int) (l : List UInt8) : (progS b at_ l).length = b.length := by
  unfold progS; split
  · rw [progBytes_length]
  · rfl

theorem FS.Still.step {s : FS} (h : s.Still) : s.step.Still ∧ s.goes = false := by
  refine ⟨⟨by simp only [FS.step]; rw [if_pos h.armed], by simp only [FS.step]; rw [if_pos h.armed]; exact h.dead⟩, by unfold FS.goes; rw [if_pos h.armed]⟩
theorem FS.Still.program {s : FS} (h : s.Still) (at_ : Int) (l : List UInt8) :
    (s.program at_ l).2 = ansP s.b.length at_ l ∧ (s.program at_ l).1.b = progS s.b at_ l ∧ (s.program at_ l).1.n = s.n ∧ (s.program at_ l).1.Still := by
  unfold FS.program ansP progS actP
  rw [if_neg (by rw [h.dead]; decide)]
  split
  · exact ⟨rfl, rfl, rfl, h⟩
  · split
    · exact ⟨rfl, rfl, rfl, h⟩
    · split
      · exact ⟨rfl, rfl, rfl, h⟩
      · have k := h.step
        refine ⟨by show toldI s.goes = 0; rw [k.2]; unfold toldI; rfl, ?_, rfl, ⟨k.1.armed, k.1.dead⟩⟩
        show progBytes s.b at_.toNat l s.goes s.keep s.mask = _
        rw [k.2, andBytes_any]; rfl
theorem FS.Still.erase {s : FS} (h : s.Still) (k : Nat) (hk : k < s.n.length) :
    (s.erase k).2 = 0 ∧ (s.erase k).1.b = eraseUpto s.b (512 * k) 512 false 0 0 ∧ (s.erase k).1.n = s.bump k ∧ (s.erase k).1.Still := by
  unfold FS.erase
  rw [if_neg (by rw [h.dead]; decide), if_neg (by unfold blkB; rw [decide_eq_false_iff_not]; omega)]
  have q := h.step
  refine ⟨by show toldI s.goes = 0; rw [q.2]; unfold toldI; rfl, ?_, rfl, ⟨q.1.armed, q.1.dead⟩⟩
  show eraseUpto s.b (512 * k) 512 s.goes s.keep s.mask = _
  rw [q.2, fullErase_any]

theorem and_swap (a b c : UInt8) : a &&& b &&& c = a &&& c &&& b := by rw [UInt8.and_assoc, UInt8.and_comm b c, ← UInt8.and_assoc]
theorem progBytes_comm (b : List UInt8) (A A' : Nat) (l l' : List UInt8) :
    progBytes (progBytes b A l false 0 0) A' l' false 0 0 = progBytes (progBytes b A' l' false 0 0) A l false 0 0 := by
  apply List.ext_getElem?; intro k
  simp only [progBytes_at, Option.map_map, progByte, true_or, if_true]
  congr 1; funext o
  simp only [Function.comp]
  split <;> split <;> (repeat' split) <;> first | rfl | exact and_swap _ _ _
theorem progBytes_twice (b : List UInt8) (A : Nat) (l : List UInt8) :
    progBytes (progBytes b A l false 0 0) A l false 0 0 = progBytes b A l false 0 0 := by
  apply List.ext_getElem?; intro k
  simp only [progBytes_at, Option.map_map, progByte, true_or, if_true]
  congr 1; funext o
  simp only [Function.comp]
  split
  · split
    · rw [UInt8.and_assoc, UInt8.and_self]
    · rfl
  · rfl
theorem progS_twice (b : List UInt8) (at_ : Int) (l : List UInt8) : progS (progS b at_ l) at_ l = progS b at_ l := by
  unfold progS
  by_cases h : actP b.length at_ l = true
  · rw [if_pos h, progBytes_length, if_pos h, progBytes_twice]
  · rw [if_neg h, if_neg h]
theorem progS_comm (b : List UInt8) (a a' : Int) (l l' : List UInt8) : progS (progS b a l) a' l' = progS (progS b a' l') a l := by
  unfold progS
  by_cases h : actP b.length a l = true <;> by_cases h' : actP b.length a' l' = true
  · rw [if_pos h, if_pos h', progBytes_length, progBytes_length, if_pos h, if_pos h', progBytes_comm]
  · rw [if_pos h, if_neg h', progBytes_length, if_neg h', if_pos h]
  · rw [if_neg h, if_pos h', progBytes_length, if_neg h]
  · rw [if_neg h, if_neg h', if_neg h]
theorem eraseUpto_at (b : List UInt8) (base m : Nat) (gone : Bool) (keep : Int) (mask : UInt8) (k : Nat) :
    (eraseUpto b base m gone keep mask)[k]? = (b[k]?).map fun old => if base ≤ k ∧ k < base + m then eraseByte gone keep mask ((k - base) / 64) old else old := by
  simp only [eraseUpto, List.getElem?_mapIdx]
theorem eraseUpto_twice (b : List UInt8) (A m : Nat) : eraseUpto (eraseUpto b A m false 0 0) A m false 0 0 = eraseUpto b A m false 0 0 := by
  apply List.ext_getElem?; intro k
  simp only [eraseUpto_at, Option.map_map, eraseByte, true_or, if_true]
  congr 1; funext o
  simp only [Function.comp]
  split <;> rfl
theorem FS.new_still (l : List UInt8) : (FS.new l).Still := ⟨rfl, rfl⟩
theorem count_two (s s1 s2 : FS) (m : Nat) (hm : 1 ≤ m) (h : s.n = List.replicate m 0) (h1 : s1.n = s.bump 0) (h2 : s2.n = s1.bump 0) : s2.count 0 = 2 := by
  obtain ⟨m, rfl⟩ : ∃ k, m = k + 1 := ⟨m - 1, by omega⟩
  unfold FS.count
  rw [h2, FS.bump, h1, FS.bump, h, if_pos (Int.le_refl 0)]
  simp only [List.replicate_succ, List.getD_cons_zero, List.set_cons_zero, Int.toNat_zero]
  decide +kernel
end Go.Proofs.Ytaeomiedmjedgaa
