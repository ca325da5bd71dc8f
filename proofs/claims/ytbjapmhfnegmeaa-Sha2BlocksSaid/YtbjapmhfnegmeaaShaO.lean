/- SHA-2: the calls whose answers the document fixes. -/
import Derived.Test.YtbjapmhfnegmeaaShaN
namespace Go.Proofs.Ytbjapmhfnegmeaa
set_option linter.unusedVariables false
open Go Go.RowKit Sha

/-- Below by the first world's size. -/
theorem bth {a b c : World} (h1 : Below a.heap.size a b) (h2 : Below b.heap.size b c) : Below a.heap.size a c := h1.trans (h2.mono h1.size)
theorem bthU {a b c : World} {p : Nat} (h1 : Below a.heap.size a b) (h2 : Upd [p] b c) (hp : a.heap.size ≤ p) : Below a.heap.size a c := Upd.below h1 h2 (by simpa using hp) h1.size
def sABC : ByteArray := sumS 0 [97, 98, 99]
def sABX : ByteArray := sumS 0 [97, 98, 120]
def sNIL : ByteArray := sumS 1 []
set_option maxRecDepth 100000 in
set_option maxHeartbeats 2000000 in
theorem fixed_any (w : World) : Calls Try.prog 9 #[] w fun e w' => e = .returned (.bool true) ∧ Below w.heap.size w w' := by
  have O1 := Box.mk (fun w => oneB_any 0 (.inl rfl) ⟨#[97, 98, 99]⟩ (by decide) w)
  have O2 := Box.mk (fun w => oneB_any 1 (.inr rfl) ⟨#[]⟩ (by decide) w)
  have O3 := Box.mk (fun w => oneB_no 2 (by unfold Kind; omega) ⟨#[]⟩ w)
  have N1 := Box.mk (fun w => newB_any 0 (.inl rfl) w)
  have N2 := Box.mk (fun w => new_no (-1) w (by omega) (by omega))
  go_enter Try.func9, Try.ntmps9
  go_wp2_with fail
  refine (O1.out _).mono ?_
  rintro e w1 ⟨rfl, k1⟩
  have B1 := Box.mk k1; clear k1
  go_wp2_with fail
  refine (O2.out _).mono ?_
  rintro e w2 ⟨rfl, k2⟩
  have B2 := Box.mk (bth B1.out k2); clear k2 B1
  go_wp2_with fail
  refine (O3.out _).mono ?_
  rintro e w3 ⟨rfl, rfl⟩
  go_wp2_with fail
  refine (N1.out _).mono ?_
  rintro e w4 ⟨p, rfl, hp, hs, k4⟩
  have B4 := Box.mk (bth B2.out k4); have hp := Nat.le_trans B2.out.size hp; have HS := Box.mk hs; clear k4 B2 hs
  go_wp2_with fail
  refine (N2.out _).mono ?_
  rintro e w5 ⟨rfl, rfl⟩
  go_wp2_with fail
  refine (writeB_any 0 p [] ⟨#[97, 98]⟩ _ HS.out (by decide) (by simp)).mono ?_
  rintro e w6 ⟨rfl, hs6, hu6⟩
  have B6 := Box.mk (bthU B4.out hu6 hp); have HS6 := Box.mk hs6; clear hu6 hs6 HS B4
  go_wp2_with fail
  refine (cloneB_any 0 p _ _ HS6.out).mono ?_
  rintro e w7 ⟨q, rfl, hq, hs7, k7⟩
  have hne : p ≠ q := by have := HS6.out.lt; omega
  have B7 := Box.mk (bth B6.out k7); have HS7 := Box.mk (HS6.out.below k7); have HC7 := Box.mk hs7; have hq := Nat.le_trans B6.out.size hq; clear k7 hs7 HS6 B6
  go_wp2_with fail
  refine (writeB_any 0 p _ ⟨#[99]⟩ _ HS7.out (by decide) (by simp)).mono ?_
  rintro e w8 ⟨rfl, hs8, hu8⟩
  have B8 := Box.mk (bthU B7.out hu8 hp); have HS8 := Box.mk hs8; have HC8 := Box.mk (HC7.out.upd hu8 hne.symm); clear hu8 hs8 HS7 HC7 B7
  go_wp2_with fail
  refine (writeB_any 0 q _ ⟨#[120]⟩ _ HC8.out (by decide) (by simp)).mono ?_
  rintro e w9 ⟨rfl, hs9, hu9⟩
  have B9 := Box.mk (bthU B8.out hu9 hq); have HC9 := Box.mk hs9; have HS9 := Box.mk (HS8.out.upd hu9 hne); clear hu9 hs9 HS8 HC8 B8
  have e1 : sumS 0 (⟨#[97, 98, 99]⟩ : ByteArray).data.toList = sABC := rfl
  have e2 : sumS 1 (⟨#[]⟩ : ByteArray).data.toList = sNIL := rfl
  rw [e1, e2]
  clear e1 e2
  have z1 : (sABC.size : Int) = 32 := by have := sumS_size 0 [97, 98, 99] (.inl rfl); exact this
  have z2 : (sNIL.size : Int) = 64 := by have := sumS_size 1 [] (.inr rfl); exact this
  have t1 : (sABC.extract 0 8).toList = [186, 120, 22, 191, 143, 1, 207, 234] := by
    rw [ByteArray.toList_eq, extract_take]; exact abc
  have t2 : (sNIL.extract 0 4).toList = [207, 131, 225, 53] := by
    rw [ByteArray.toList_eq, extract_take]; exact nil512
  have t3 : (sABC.toList == sABC.toList) = true := by simp
  have t4 : (sABX.toList != sABC.toList) = true := by
    rw [bne_iff_ne]
    intro h
    rw [ByteArray.toList_eq, ByteArray.toList_eq] at h
    exact abx h.symm
  have t5 : (sABX.toList == sABC.toList) = false := by
    rw [← Bool.not_eq_true]
    intro h
    rw [bne_iff_ne] at t4
    exact t4 (by simpa using h)
  have HS := Box.mk (show HasB 0 w9 p [97, 98, 99] from HS9.out)
  have HC := Box.mk (show HasB 0 w9 q [97, 98, 120] from HC9.out)
  clear HS9 HC9
  go_wp2_with fail
  refine (sumB_any 0 p _ _ HS.out (by simp)).mono ?_
  rintro e w10 ⟨rfl, k10⟩
  have B10 := Box.mk (bth B9.out k10); have HS10 := Box.mk (HS.out.below k10); have HC10 := Box.mk (HC.out.below k10); clear k10 HS HC B9
  rw [show sumS 0 [97, 98, 99] = sABC from rfl]
  go_wp2_with fail
  refine (sizeB_any 0 p _ _ HS10.out).mono ?_
  rintro e w11 ⟨rfl, rfl⟩
  go_wp2_with fail
  refine (sumB_any 0 q _ _ HC10.out (by simp)).mono ?_
  rintro e w12 ⟨rfl, k12⟩
  have B12 := Box.mk (bth B10.out k12); clear k12
  rw [show sumS 0 [97, 98, 120] = sABX from rfl]
  go_wp2
  go_ret
  exact ⟨rfl, B12.out⟩
end Go.Proofs.Ytbjapmhfnegmeaa
