/- The package curve: bytes and points, plainly. -/
import Derived.Test.YtpgichfagodkpaaCurveD
namespace Go.Proofs.Ytpgichfagodkpaa.Fe
set_option linter.unusedVariables false
open Go Go.RowKit

theorem den_ne (y : F) : y * y * cd + 1 ≠ 0 := fun h => by
  by_cases hy : y = 0
  · subst hy; exact one_ne (by rw [← h]; grind)
  · refine cd_sq hy (r := fI) ?_
    rw [fI_sq]; grind
/-- x x of a y. -/
def xxOf (y : F) : F := (y * y - 1) * fi (y * y * cd + 1)
theorem xx_of_on {x y : F} (h : On x y) : x * x = xxOf y := by
  have h1 := fi_mul (den_ne y)
  unfold On at h
  unfold xxOf
  have e : y * y - 1 = x * x * (y * y * cd + 1) := by grind
  rw [e]; grind
theorem on_of_xx {x y : F} (h : x * x = xxOf y) : On x y := by
  have h1 := fi_mul (den_ne y)
  unfold xxOf at h
  unfold On
  have e : x * x * (y * y * cd + 1) = y * y - 1 := by rw [h]; grind
  grind
theorem fsq_val (x : F) : (x * x).val = x.val * x.val % fp := Fin.val_mul _ _
theorem root_yes {x a : F} (h : x * x = a) : (rtN a.val).2 = true := by rw [← h, fsq_val]; exact root_sq x.isLt
theorem rawR_lt (A : Nat) : rawR A < fp := by unfold rawR; split <;> exact tryR_lt _ _
theorem rawR_sq {A : Nat} (h : (rtN A).2 = true) : rawR A * rawR A % fp = A := by
  by_cases h0 : tryR A 0 * tryR A 0 % fp = A
  · rw [(rawR_hit h0).1]; exact h0
  · by_cases h1 : tryR A 1 * tryR A 1 % fp = A
    · rw [(rawR_two h0 h1).1]; exact h1
    · rw [(rawR_miss h0 h1).2] at h; cases h
theorem raw_sq {a : F} (h : (rtN a.val).2 = true) : fv (rawR a.val) * fv (rawR a.val) = a := by
  rw [← fv_mul]; refine Fin.ext ?_; rw [fv_val]; exact rawR_sq h
theorem f_sq_eq {x y : F} (h : x * x = y * y) : x = y ∨ x = -y := by
  have : (x - y) * (x + y) = 0 := by grind
  rcases f_mul_zero this with h | h
  · exact .inl (by grind)
  · exact .inr (by grind)
theorem neg_val {x : F} (h : x ≠ 0) : (-x).val = fp - x.val := by
  have e : -x + x = 0 := by grind
  have e1 : ((-x).val + x.val) % fp = 0 := by have := congrArg Fin.val e; rwa [Fin.val_add] at this
  have h1 := (-x).isLt; have h2 := x.isLt
  have h3 : 0 < x.val := Nat.pos_of_ne_zero fun e => h (Fin.ext e)
  rcases Nat.lt_or_ge ((-x).val + x.val) fp with h4 | h4
  · rw [Nat.mod_eq_of_lt h4] at e1; omega
  · rw [Nat.mod_eq_sub_mod h4, Nat.mod_eq_of_lt (by omega)] at e1; omega
theorem neg_parity {x : F} (h : x ≠ 0) : (-x).val % 2 = 1 - x.val % 2 := by
  rw [neg_val h]
  have := fp_odd; have h2 := x.isLt
  omega
theorem encP_size (p : CP) : (encP p).size = 32 := sbytes_size _
theorem val255 (x : F) : x.val < 2 ^ 255 := Nat.lt_of_lt_of_le x.isLt (by rw [fp_eq]; decide)
theorem encP_num (p : CP) : num (encP p) = p.y.val + 2 ^ 255 * (p.x.val % 2) := by
  unfold encP; rw [num_sbytes]
  have := val255 p.y
  have : (256 : Nat) ^ 32 = 2 ^ 256 := rfl
  omega
theorem enc_iff (p : CP) {s : ByteArray} (hs : s.size = 32) : encP p = s ↔ p.y.val = num s % 2 ^ 255 ∧ p.x.val % 2 = num s / 2 ^ 255 := by
  have h1 := encP_num p
  have h2 := val255 p.y
  constructor
  · rintro rfl
    omega
  · rintro ⟨e1, e2⟩
    refine bytes_inj (by rw [encP_size, hs]) ?_
    rw [h1]; omega
theorem encP_inj {p q : CP} (h : encP p = encP q) : p = q := by
  have h0 := (enc_iff p (encP_size q)).1 h
  have h1 := (enc_iff q (encP_size q)).1 rfl
  have hy : p.y = q.y := Fin.ext (h0.1.trans h1.1.symm)
  have hx := h0.2.trans h1.2.symm
  refine CP.ext' ?_ hy
  have e : p.x * p.x = q.x * q.x := by rw [xx_of_on p.on, xx_of_on q.on, hy]
  rcases f_sq_eq e with h | h
  · exact h
  · by_cases hz : q.x = 0
    · rw [h, hz]; grind
    · rw [h, neg_parity hz] at hx; omega
/-- Bytes that are no point's. -/
def NoP (s : ByteArray) : Prop := ∀ p, encP p ≠ s
theorem no_size {s : ByteArray} (h : s.size ≠ 32) : NoP s := fun p hp => h (by rw [← hp]; exact encP_size p)
theorem no_big {s : ByteArray} (hs : s.size = 32) (h : fp ≤ num s % 2 ^ 255) : NoP s := fun p hp => by
  have := ((enc_iff p hs).1 hp).1
  have := p.y.isLt
  omega
theorem no_root' {s : ByteArray} (hs : s.size = 32) {y : F} (hy : y.val = num s % 2 ^ 255) (h : (rtN (xxOf y).val).2 = false) : NoP s := fun p hp => by
  have h1 := ((enc_iff p hs).1 hp).1
  have : p.y = y := Fin.ext (h1.trans hy.symm)
  have := root_yes (xx_of_on p.on)
  simp_all
theorem no_zero {s : ByteArray} (hs : s.size = 32) {y : F} (hy : y.val = num s % 2 ^ 255) (h : (rtN (xxOf y).val).2 = true) (hz : rawR (xxOf y).val = 0) (ho : num s / 2 ^ 255 = 1) : NoP s := fun p hp => by
  have h1 := (enc_iff p hs).1 hp
  have e : p.y = y := Fin.ext (h1.1.trans hy.symm)
  have h2 := rawR_sq h
  have h3 : xxOf y = 0 := Fin.ext (by rw [← h2, hz]; rfl)
  have h4 := xx_of_on p.on
  rw [e, h3] at h4
  have h5 : p.x = 0 := (f_mul_zero h4).elim id id
  rw [h5, ho] at h1
  simp at h1
/-- Its x has the sign, or the other's. -/
def signX (y : F) (b : Nat) : F := if rawR (xxOf y).val % 2 = b then fv (rawR (xxOf y).val) else -fv (rawR (xxOf y).val)
theorem signX_on {y : F} (b : Nat) (h : (rtN (xxOf y).val).2 = true) : On (signX y b) y := by
  refine on_of_xx ?_
  rw [← raw_sq h]
  unfold signX
  split
  · rw [raw_sq h]
  · have := raw_sq h; grind
theorem raw_val (y : F) : (fv (rawR (xxOf y).val)).val = rawR (xxOf y).val := Nat.mod_eq_of_lt (rawR_lt _)
theorem signX_par {y : F} (b : Nat) (hb : b < 2) (hz : b = 1 → rawR (xxOf y).val ≠ 0) : (signX y b).val % 2 = b := by
  unfold signX
  split
  · rw [raw_val]; assumption
  · rename_i h
    have hn : fv (rawR (xxOf y).val) ≠ 0 := fun e => by
      have e1 := congrArg Fin.val e
      rw [raw_val] at e1
      have e2 : rawR (xxOf y).val = 0 := e1
      rw [e2] at h
      exact hz (by omega) e2
    rw [neg_parity hn, raw_val]; omega
def decP (y : F) (b : Nat) (h : (rtN (xxOf y).val).2 = true) : CP := ⟨signX y b, y, signX_on b h⟩
theorem enc_dec {s : ByteArray} (hs : s.size = 32) {y : F} (hy : y.val = num s % 2 ^ 255) (h : (rtN (xxOf y).val).2 = true) (hz : num s / 2 ^ 255 = 1 → rawR (xxOf y).val ≠ 0) : encP (decP y (num s / 2 ^ 255) h) = s := by
  have := num_lt32 hs
  have : (256 : Nat) ^ 32 = 2 ^ 256 := rfl
  exact (enc_iff _ hs).2 ⟨hy, signX_par _ (by omega) hz⟩
end Go.Proofs.Ytpgichfagodkpaa.Fe
