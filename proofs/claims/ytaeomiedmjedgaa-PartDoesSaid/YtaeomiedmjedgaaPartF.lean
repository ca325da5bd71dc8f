/- The calls that the document fixes, of a part: the numbers. -/
import Derived.Test.YtaeomiedmjedgaaPartE
import Derived.Test.YtaeomiedmjedgaaFlashH
namespace Go.Proofs.Ytaeomiedmjedgaa
set_option linter.unusedVariables false
open Go Go.RowKit

@[irreducible] def pb0 : List UInt8 := List.replicate 1536 255
@[irreducible] def pb1 : List UInt8 := progBytes pb0 572 [97, 98, 99, 100] false 0 0
@[irreducible] def pb2 : List UInt8 := progBytes pb1 576 [101, 102, 103, 104] false 0 0
theorem pb0_len : pb0.length = 1536 := by unfold pb0; rw [List.length_replicate]
theorem pb1_len : pb1.length = 1536 := by unfold pb1; rw [progBytes_length, pb0_len]
theorem pb2_len : pb2.length = 1536 := by unfold pb2; rw [progBytes_length, pb1_len]
def abc8 : ByteArray := ⟨#[97, 98, 99, 100, 101, 102, 103, 104]⟩
def px0 : FS := { b := pb0, n := [0, 0, 0], steps := 0, armed := 0, keep := 0, mask := 0, dead := false }
def pxm : FS := { px0 with b := pb1, steps := 1 }
def px1 : FS := { px0 with b := pb2, steps := 2 }
theorem px_new : FS.new (List.replicate (512 * 3) 255) = px0 := by
  unfold FS.new px0 pb0; rw [List.length_replicate]; kernel_rfl
theorem px0_ok : px0.Ok := ⟨by decide, by decide, pb0_len, by decide⟩
theorem px1_ok : px1.Ok := ⟨by decide, by decide, pb2_len, by decide⟩
theorem px_a : px0.program 572 [97, 98, 99, 100] = (pxm, 0) := by
  have h := FS.program_go px0 572 [97, 98, 99, 100] rfl (by simp) (by show _ ≤ pb0.length; rw [pb0_len]; decide) (by decide)
  exact h.trans (by kernel_rfl)
theorem px_b : pxm.program 576 [101, 102, 103, 104] = (px1, 0) := by
  have h := FS.program_go pxm 576 [101, 102, 103, 104] rfl (by simp) (by show _ ≤ pb1.length; rw [pb1_len]; decide) (by decide)
  exact h.trans (by kernel_rfl)
theorem px_w : px0.pwrite 1 2 60 abc8.data.toList = (px1, 0) := by
  have hb : inB 2 60 (abc8.data.toList.length : Nat) = true := by unfold inB; decide
  unfold FS.pwrite
  rw [if_pos hb]
  show FS.pw 8 px0 572 [97, 98, 99, 100, 101, 102, 103, 104] = _
  rw [FS.pw_step _ _ _ _ (by simp)]
  rw [show min ([97, 98, 99, 100, 101, 102, 103, 104] : List UInt8).length (64 - ((572 : Int) % 64).toNat) = 4 from by decide]
  rw [show ([97, 98, 99, 100, 101, 102, 103, 104] : List UInt8).take 4 = [97, 98, 99, 100] from rfl, show ([97, 98, 99, 100, 101, 102, 103, 104] : List UInt8).drop 4 = [101, 102, 103, 104] from rfl, px_a, if_neg (by simp)]
  show FS.pw 7 pxm 576 [101, 102, 103, 104] = _
  rw [FS.pw_step _ _ _ _ (by simp)]
  rw [show min ([101, 102, 103, 104] : List UInt8).length (64 - ((576 : Int) % 64).toNat) = 4 from by decide]
  rw [show ([101, 102, 103, 104] : List UInt8).take 4 = [101, 102, 103, 104] from rfl, show ([101, 102, 103, 104] : List UInt8).drop 4 = [] from rfl, px_b, if_neg (by simp), FS.pw_nil]
theorem px0_in : In px0.n.length 1 2 := ⟨by decide, by decide, by decide, by decide⟩
theorem px1_in : In px1.n.length 1 2 := ⟨by decide, by decide, by decide, by decide⟩
theorem px0_no : ¬ In px0.n.length 2 2 := fun h => absurd h.hi (by decide)
theorem px_w2 : px1.pwrite 1 2 1020 abc8.data.toList = (px1, 121) := by
  have : inB 2 1020 (abc8.data.toList.length : Nat) = false := by unfold inB; decide
  unfold FS.pwrite; rw [this]; rfl
theorem pb0_at (k : Nat) (h : k < 1536) : pb0[k]? = some 255 := by rw [pb0, List.getElem?_replicate, if_pos h]
theorem pb2_mid (j : Nat) (h : j < 8) : pb2[572 + j]? = abc8.data.toList[j]? := by
  match j, h with
  | 0, _ => rw [pb2, progBytes_at, pb1, progBytes_at, pb0_at _ (by omega)]; decide
  | 1, _ => rw [pb2, progBytes_at, pb1, progBytes_at, pb0_at _ (by omega)]; decide
  | 2, _ => rw [pb2, progBytes_at, pb1, progBytes_at, pb0_at _ (by omega)]; decide
  | 3, _ => rw [pb2, progBytes_at, pb1, progBytes_at, pb0_at _ (by omega)]; decide
  | 4, _ => rw [pb2, progBytes_at, pb1, progBytes_at, pb0_at _ (by omega)]; decide
  | 5, _ => rw [pb2, progBytes_at, pb1, progBytes_at, pb0_at _ (by omega)]; decide
  | 6, _ => rw [pb2, progBytes_at, pb1, progBytes_at, pb0_at _ (by omega)]; decide
  | 7, _ => rw [pb2, progBytes_at, pb1, progBytes_at, pb0_at _ (by omega)]; decide
theorem px_rd : readV px1 572 8 = .tuple #[.string abc8, .int .i64 0] := by
  have h2 : onB px1.b.length 572 8 = true := by unfold onB; rw [decide_eq_true_iff]; show _ ∧ _ ∧ _ ≤ ((pb2.length : Nat) : Int); rw [pb2_len]; decide
  have h3 : (px1.b.drop (572 : Int).toNat).take (8 : Int).toNat = abc8.data.toList := by
    show (pb2.drop 572).take 8 = _
    apply List.ext_getElem?
    intro i
    rw [List.getElem?_take, List.getElem?_drop]
    by_cases h : i < 8
    · rw [if_pos h, pb2_mid i h]
    · rw [if_neg h, List.getElem?_eq_none (by show 8 ≤ i; omega)]
  unfold readV
  rw [if_neg (by decide), if_pos h2, h3]
theorem px_cl : pcleanV px1 1 2 0 60 = (true, 0) := by
  have h2 : inB 2 0 60 = true := by unfold inB; decide
  have h3 : (px1.b.drop (512 * 1 + 0 : Int).toNat).take (60 : Int).toNat = List.replicate 60 255 := by
    show (pb2.drop 512).take 60 = _
    apply List.ext_getElem?
    intro i
    rw [List.getElem?_take, List.getElem?_drop, List.getElem?_replicate]
    by_cases h : i < 60
    · rw [if_pos h, if_pos h, pb2, progBytes_get _ _ _ _ _ _ _ (.inr (by omega)), pb1, progBytes_get _ _ _ _ _ _ _ (.inr (by omega)), pb0_at _ (by omega)]
    · rw [if_neg h, if_neg h]
  have e : preadV px1 1 2 0 60 = (⟨(List.replicate 60 255).toArray⟩, 0) := by unfold preadV; rw [if_pos h2, if_neg (by decide), h3]
  unfold pcleanV
  rw [e]
  decide
end Go.Proofs.Ytaeomiedmjedgaa
