/- The flash: the calls whose answers the document fixes. -/
import Derived.Test.YtaeomiedmjedgaaFlashG
namespace Go.Proofs.Ytaeomiedmjedgaa
set_option linter.unusedVariables false
open Go Go.RowKit

theorem progBytes_at (b : List UInt8) (A : Nat) (l : List UInt8) (gone : Bool) (keep : Int) (mask : UInt8) (k : Nat) :
    (progBytes b A l gone keep mask)[k]? = (b[k]?).map fun old => if A ≤ k then (match l[k - A]? with | some c => progByte gone keep mask (k - A) old c | none => old) else old := by
  simp only [progBytes, List.getElem?_mapIdx]
  rfl
/-- A step on a living flash. -/
theorem FS.program_go (s : FS) (A : Nat) (l : List UInt8) (hd : s.dead = false) (hl : l ≠ []) (hA : A + l.length ≤ s.b.length) (hp : (A : Int) / 64 = ((A : Int) + l.length - 1) / 64) :
    s.program A l = ({ s.step with b := progBytes s.b A l s.goes s.keep s.mask }, toldI s.goes) := by
  unfold FS.program
  rw [if_neg (by rw [hd]; decide), if_neg (by unfold onB; rw [decide_eq_false_iff_not]; omega), if_neg hl, if_neg (by simpa using hp)]
  rfl
@[irreducible] def fb0 : List UInt8 := List.replicate 512 255
@[irreducible] def fb1 : List UInt8 := progBytes fb0 0 [15, 240] false 0 0
@[irreducible] def fb2 : List UInt8 := progBytes fb1 1 [15] false 0 0
@[irreducible] def fb5 : List UInt8 := progBytes fb2 8 [0, 0] true 1 15
def fx0 : FS := { b := fb0, n := [0], steps := 0, armed := 0, keep := 0, mask := 0, dead := false }
def fx1 : FS := { fx0 with b := fb1, steps := 1 }
def fx2 : FS := { fx0 with b := fb2, steps := 2 }
def fx4 : FS := { fx2 with armed := 1, keep := 1, mask := 15 }
def fx5 : FS := { fx4 with b := fb5, steps := 3, armed := 0, dead := true }
theorem fb0_len : fb0.length = 512 := by unfold fb0; rw [List.length_replicate]
theorem fb1_len : fb1.length = 512 := by unfold fb1; rw [progBytes_length, fb0_len]
theorem fb2_len : fb2.length = 512 := by unfold fb2; rw [progBytes_length, fb1_len]
theorem fb5_len : fb5.length = 512 := by unfold fb5; rw [progBytes_length, fb2_len]
theorem fx_new : FS.new (List.replicate (512 * 1) 255) = fx0 := by
  unfold FS.new fx0 fb0; rw [List.length_replicate]; kernel_rfl
theorem fx_a : fx0.program 0 [15, 240] = (fx1, 0) := by
  have h := FS.program_go fx0 0 [15, 240] rfl (by simp) (by show _ ≤ fb0.length; rw [fb0_len]; decide) (by decide)
  exact h.trans (by kernel_rfl)
theorem fx_b : fx1.program 1 [15] = (fx2, 0) := by
  have h := FS.program_go fx1 1 [15] rfl (by simp) (by show _ ≤ fb1.length; rw [fb1_len]; decide) (by decide)
  exact h.trans (by kernel_rfl)
theorem fx_c : fx2.program 63 [120, 120] = (fx2, 112) := by
  unfold FS.program
  rw [if_neg (by decide), if_neg (by unfold onB; rw [decide_eq_false_iff_not]; show ¬ ¬ (_ ∧ _ ∧ _ ≤ ((fb2.length : Nat) : Int)); rw [fb2_len]; decide), if_neg (by simp), if_pos (by decide)]
theorem fx_i : fx2.arm 1 1 15 = (fx4, 0) := by
  unfold FS.arm
  rw [if_neg (by decide), if_neg (by decide)]
  rfl
theorem fx_j : fx4.program 8 [0, 0] = (fx5, 2) := by
  have h := FS.program_go fx4 8 [0, 0] rfl (by simp) (by show _ ≤ fb2.length; rw [fb2_len]; decide) (by decide)
  exact h.trans (by kernel_rfl)
theorem fb0_at (k : Nat) (h : k < 512) : fb0[k]? = some 255 := by rw [fb0, List.getElem?_replicate, if_pos h]
theorem fx_d2 : onB fx2.b.length 0 3 = true := by
  unfold onB; rw [decide_eq_true_iff]; show _ ∧ _ ∧ _ ≤ ((fb2.length : Nat) : Int); rw [fb2_len]; decide
theorem fx_d3 : (fx2.b.drop (0 : Int).toNat).take (3 : Int).toNat = [15, 0, 255] := by
  have h0 : fb2[0]? = some 15 := by rw [fb2, progBytes_at, fb1, progBytes_at, fb0_at 0 (by omega)]; decide
  have h1 : fb2[1]? = some 0 := by rw [fb2, progBytes_at, fb1, progBytes_at, fb0_at 1 (by omega)]; decide
  have h2 : fb2[2]? = some 255 := by rw [fb2, progBytes_at, fb1, progBytes_at, fb0_at 2 (by omega)]; decide
  show (fb2.drop 0).take 3 = _
  rw [List.drop_zero]
  apply List.ext_getElem?
  intro i
  rw [List.getElem?_take]
  rcases i with _ | _ | _ | i
  · exact h0
  · exact h1
  · exact h2
  · rw [if_neg (by omega)]; rfl
theorem fx_e5 : fb5[8]? = some 0 := by
  rw [fb5, progBytes_at, fb2, progBytes_at, fb1, progBytes_at, fb0_at 8 (by omega)]; decide
theorem fx_e6 : fb5[9]? = some 15 := by
  rw [fb5, progBytes_at, fb2, progBytes_at, fb1, progBytes_at, fb0_at 9 (by omega)]; decide
theorem fx0_ok : fx0.Ok := ⟨by decide, by decide, fb0_len, by decide⟩
theorem fx1_ok : fx1.Ok := ⟨by decide, by decide, fb1_len, by decide⟩
theorem fx2_ok : fx2.Ok := ⟨by decide, by decide, fb2_len, by decide⟩
theorem fx4_ok : fx4.Ok := ⟨by decide, by decide, fb2_len, by decide⟩

end Go.Proofs.Ytaeomiedmjedgaa
