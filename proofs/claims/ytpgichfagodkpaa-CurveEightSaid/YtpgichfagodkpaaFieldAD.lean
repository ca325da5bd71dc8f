/- The field of the prime 2^255 - 19, plainly: inverses, squares, roots. -/
import Derived.Test.YtpgichfagodkpaaFieldY
import Derived.Test.YtpgichfagodkpaaNumP
namespace Go.Proofs.Ytpgichfagodkpaa.Fe
set_option linter.unusedVariables false
open Go Go.RowKit Num

theorem fp_pr : Pr fp := by rw [fp_eq]; exact pr_57896044618658097711785492504343953926634992332820282019728792003956564819949
theorem not_dvd {a : Nat} (h0 : 0 < a) (h : a < fp) : ¬ fp ∣ a := fun hd => by have := Nat.le_of_dvd h0 hd; omega
theorem fermat_f {a : Nat} (h0 : 0 < a) (h : a < fp) : a ^ (fp - 1) % fp = 1 := fermat1 fp_pr a (not_dvd h0 h)
theorem two_lt_fp : 2 < fp := by rw [fp_eq]; decide
theorem one_mod : 1 % fp = 1 := Nat.mod_eq_of_lt (by have := two_lt_fp; omega)
theorem inv_mul {a : Nat} (h0 : 0 < a) (h : a < fp) : a * (a ^ (fp - 2) % fp) % fp = 1 := by
  rw [Nat.mul_mod_mod, ← Nat.pow_succ', show (fp - 2).succ = fp - 1 by have := two_lt_fp; omega]
  exact fermat_f h0 h
theorem inv_pos {a : Nat} (h0 : 0 < a) (h : a < fp) : 0 < a ^ (fp - 2) % fp := by
  rcases Nat.eq_zero_or_pos (a ^ (fp - 2) % fp) with e | e
  · have := inv_mul h0 h
    rw [e, Nat.mul_zero, Nat.zero_mod] at this; cases this
  · exact e
theorem inv_lt (a : Nat) : a ^ (fp - 2) % fp < fp := Nat.mod_lt _ fp_pos
theorem inv_zero : 0 ^ (fp - 2) % fp = 0 := by
  rw [Nat.zero_pow (by have := two_lt_fp; omega), Nat.zero_mod]
/-- What is cancelled. -/
theorem cancel_f {a x y : Nat} (h0 : 0 < a) (h : a < fp) (hx : x < fp) (hy : y < fp) (e : a * x % fp = a * y % fp) : x = y := by
  have h1 : a ^ (fp - 2) % fp * (a * x % fp) % fp = a ^ (fp - 2) % fp * (a * y % fp) % fp := by rw [e]
  have k : ∀ z, z < fp → a ^ (fp - 2) % fp * (a * z % fp) % fp = z := fun z hz => by
    rw [Nat.mul_mod_mod, ← Nat.mul_assoc, Nat.mul_comm _ a, Nat.mul_mod, inv_mul h0 h, Nat.one_mul, Nat.mod_mod, Nat.mod_eq_of_lt hz]
  rwa [k x hx, k y hy] at h1
theorem inv_inv {a : Nat} (h0 : 0 < a) (h : a < fp) : (a ^ (fp - 2) % fp) ^ (fp - 2) % fp = a := by
  have hi := inv_mul (inv_pos h0 h) (inv_lt a)
  refine cancel_f (inv_pos h0 h) (inv_lt a) (Nat.mod_lt _ fp_pos) h ?_
  rw [hi, Nat.mul_comm, inv_mul h0 h]
theorem mul_zero_f {a b : Nat} (ha : a < fp) (hb : b < fp) (h : a * b % fp = 0) : a = 0 ∨ b = 0 := by
  rcases fp_pr.dvd_mul (Nat.dvd_of_mod_eq_zero h) with h | h
  · exact .inl (Nat.eq_zero_of_dvd_of_lt h ha)
  · exact .inr (Nat.eq_zero_of_dvd_of_lt h hb)
/-- Two roots of one square. -/
theorem sq_eq {x y : Nat} (hx : x < fp) (hy : y < fp) (h : x * x % fp = y * y % fp) : x = y ∨ x = (fp - y) % fp := by
  rcases Nat.le_total y x with hle | hle
  · have hd : fp ∣ (x - y) * (x + y) := by
      have h1 : (x * x - y * y) % fp = 0 := Nat.sub_mod_eq_zero_of_mod_eq h
      have h2 : x * x - y * y = (x - y) * (x + y) := by rw [Nat.mul_self_sub_mul_self_eq, Nat.mul_comm]
      rw [h2] at h1; exact Nat.dvd_of_mod_eq_zero h1
    rcases fp_pr.dvd_mul hd with h | h
    · left; have := Nat.eq_zero_of_dvd_of_lt h (by omega); omega
    · obtain ⟨c, hc⟩ := h
      have hc2 : c = 0 ∨ c = 1 := by
        rcases Nat.lt_or_ge c 2 with h | h
        · omega
        · have := Nat.mul_le_mul (Nat.le_refl fp) h; omega
      rcases hc2 with rfl | rfl
      · left; omega
      · by_cases hy0 : y = 0
        · omega
        · right; rw [Nat.mod_eq_of_lt (by omega)]; omega
  · have hd : fp ∣ (y - x) * (y + x) := by
      have h1 : (y * y - x * x) % fp = 0 := Nat.sub_mod_eq_zero_of_mod_eq h.symm
      have h2 : y * y - x * x = (y - x) * (y + x) := by rw [Nat.mul_self_sub_mul_self_eq, Nat.mul_comm]
      rw [h2] at h1; exact Nat.dvd_of_mod_eq_zero h1
    rcases fp_pr.dvd_mul hd with h | h
    · left; have := Nat.eq_zero_of_dvd_of_lt h (by omega); omega
    · obtain ⟨c, hc⟩ := h
      have hc2 : c = 0 ∨ c = 1 := by
        rcases Nat.lt_or_ge c 2 with h | h
        · omega
        · have := Nat.mul_le_mul (Nat.le_refl fp) h; omega
      rcases hc2 with rfl | rfl
      · left; omega
      · by_cases hy0 : y = 0
        · omega
        · right; rw [Nat.mod_eq_of_lt (by omega)]; omega
theorem pw_comp {a n v : Nat} (hn : n < 2 ^ 256) (h : pm fp 256 a n = v) : a ^ n % fp = v := by rw [← pm_eq fp 256 a n hn]; exact h
/-- Half of p - 1. -/
@[irreducible] def hL : Nat := 28948022309329048855892746252171976963317496166410141009864396001978282409974
theorem hL_eq : hL = 28948022309329048855892746252171976963317496166410141009864396001978282409974 := by unfold hL; first | done | rfl
theorem hL_two : hL + hL = fp - 1 := by rw [hL_eq, fp_eq]
theorem hL_n1 : n1 + n1 = hL := by unfold n1; rw [hL_eq, fp_eq]
@[irreducible] def qL : Nat := 14474011154664524427946373126085988481658748083205070504932198000989141204987
theorem qL_eq : qL = 14474011154664524427946373126085988481658748083205070504932198000989141204987 := by unfold qL; first | done | rfl
theorem qL_two : 2 * qL = hL := by rw [hL_eq, qL_eq]
theorem qL_n5 : n5 + 1 + (n5 + 1) = qL + 1 := by unfold n5; rw [qL_eq, fp_eq]
theorem hL_lt : hL < 2 ^ 256 := by rw [hL_eq]; decide
/-- 2 is no square. -/
theorem two_half : 2 ^ hL % fp = fp - 1 := pw_comp hL_lt (by rw [fp_eq, hL_eq]; decide +kernel)
theorem n1_two : 2 ^ n1 % fp * (2 ^ n1 % fp) % fp = fp - 1 := by
  rw [← Nat.mul_mod, ← Nat.pow_add, hL_n1]
  exact two_half
theorem half_cases {a : Nat} (h0 : 0 < a) (h : a < fp) : a ^ hL % fp = 1 ∨ a ^ hL % fp = fp - 1 := by
  have h1 : a ^ hL % fp * (a ^ hL % fp) % fp = 1 * 1 % fp := by
    rw [← Nat.mul_mod, ← Nat.pow_add, hL_two, fermat_f h0 h, Nat.mul_one, one_mod]
  rcases sq_eq (Nat.mod_lt _ fp_pos) (by have := two_lt_fp; omega) h1 with e | e
  · exact .inl e
  · right; rw [e]; exact Nat.mod_eq_of_lt (by have := two_lt_fp; omega)
theorem neg_mul {x : Nat} (hx : x < fp) : x * (fp - 1) % fp = (fp - x) % fp := by
  have h1 : (x * (fp - 1) + x) % fp = 0 := by
    rw [show x * (fp - 1) + x = x * fp from by rw [← Nat.mul_succ, show (fp - 1).succ = fp by have := two_lt_fp; omega]]
    exact Nat.mul_mod_left _ _
  have h2 := Nat.mod_lt (x * (fp - 1)) fp_pos
  rw [Nat.add_mod, Nat.mod_eq_of_lt hx] at h1
  generalize x * (fp - 1) % fp = y at h1 h2
  by_cases hx0 : x = 0
  · subst hx0; rw [Nat.add_zero, Nat.mod_eq_of_lt h2] at h1; rw [h1, Nat.sub_zero, Nat.mod_self]
  · rw [Nat.mod_eq_of_lt (show fp - x < fp by omega)]
    obtain ⟨c, hc⟩ := Nat.dvd_of_mod_eq_zero h1
    have hc2 : c = 1 := by
      rcases Nat.lt_or_ge c 2 with h | h
      · have : c ≠ 0 := fun e => by subst e; omega
        omega
      · have := Nat.mul_le_mul (Nat.le_refl fp) h; omega
    subst hc2; omega
/-- The tried root's square: the number, times a power of it. -/
theorem try0_eq (A : Nat) : tryR A 0 = A ^ (n5 + 1) % fp := by
  show A * (A ^ n5 % fp) % fp = _
  rw [Nat.mul_mod_mod, ← Nat.pow_succ']
theorem try1_eq (A : Nat) : tryR A 1 = tryR A 0 * (2 ^ n1 % fp) % fp := rfl
theorem try0_sq (A : Nat) : tryR A 0 * tryR A 0 % fp = A * (A ^ qL % fp) % fp := by
  rw [try0_eq, ← Nat.mul_mod, ← Nat.pow_add, qL_n5, Nat.pow_succ', Nat.mul_mod_mod]
theorem pow_quarter (a : Nat) : (a * a % fp) ^ qL % fp = a ^ hL % fp := by
  rw [← Nat.pow_mod, ← Nat.pow_two, ← Nat.pow_mul, qL_two]
/-- A square has a root. -/
theorem root_sq {a : Nat} (h : a < fp) : (rtN (a * a % fp)).2 = true := by
  have hs := try0_sq (a * a % fp)
  rw [pow_quarter] at hs
  have hxl : a * a % fp < fp := Nat.mod_lt _ fp_pos
  by_cases hit : tryR (a * a % fp) 0 * tryR (a * a % fp) 0 % fp = a * a % fp
  · rw [rtN_hit (k := 0) (by omega) hit (fun j hj => by omega)]
  · by_cases ha : a = 0
    · exfalso; apply hit; rw [hs, ha, Nat.zero_mul, Nat.zero_mod, Nat.zero_mul, Nat.zero_mod]
    · rcases half_cases (show 0 < a by omega) h with e | e
      · exact absurd (by rw [hs, e, Nat.mul_one, Nat.mod_mod]) hit
      · have h1 : tryR (a * a % fp) 1 * tryR (a * a % fp) 1 % fp = a * a % fp := by
          rw [try1_eq, ← Nat.mul_mod, Nat.mul_mul_mul_comm, Nat.mul_mod, n1_two, hs, e]
          generalize a * a % fp = x at hxl
          rw [neg_mul hxl]
          by_cases hx0 : x = 0
          · subst hx0; rw [Nat.sub_zero, Nat.mod_self, Nat.zero_mul, Nat.zero_mod]
          · rw [Nat.mod_eq_of_lt (show fp - x < fp by omega), neg_mul (by omega), Nat.mod_eq_of_lt (by omega)]; omega
        rw [rtN_hit (k := 1) (by omega) h1 (fun j hj => by
          have e : j = 0 := by omega
          subst e; exact hit)]
theorem evenR_lt {r : Nat} (h : r < fp) : evenR r < fp := by
  unfold evenR; split <;> omega
theorem rt_lt (A : Nat) : (rtN A).1 < fp := by
  unfold rtN
  split
  · exact evenR_lt (tryR_lt _ _)
  · split
    · exact evenR_lt (tryR_lt _ _)
    · exact fp_pos
theorem evenR_sq {r : Nat} (h : r < fp) : evenR r * evenR r % fp = r * r % fp := by
  unfold evenR
  split
  · rename_i hr
    have e : (fp - r) = r * (fp - 1) % fp := by rw [neg_mul h, Nat.mod_eq_of_lt (by omega)]
    rw [e, ← Nat.mul_mod, Nat.mul_mul_mul_comm, Nat.mul_mod, show (fp - 1) * (fp - 1) % fp = 1 from by
      rw [neg_mul (by have := two_lt_fp; omega), Nat.mod_eq_of_lt (by have := two_lt_fp; omega)]; have := two_lt_fp; omega, Nat.mul_one, Nat.mod_mod]
  · rfl
/-- A root's square is the number. -/
theorem root_back {A : Nat} (h : (rtN A).2 = true) : (rtN A).1 * (rtN A).1 % fp = A := by
  unfold rtN at h ⊢
  by_cases h0 : tryR A 0 * tryR A 0 % fp = A
  · rw [if_pos h0]
    show evenR (tryR A 0) * evenR (tryR A 0) % fp = A
    rw [evenR_sq (tryR_lt _ _)]; exact h0
  · rw [if_neg h0] at h ⊢
    by_cases h1 : tryR A 1 * tryR A 1 % fp = A
    · rw [if_pos h1]
      show evenR (tryR A 1) * evenR (tryR A 1) % fp = A
      rw [evenR_sq (tryR_lt _ _)]; exact h1
    · rw [if_neg h1] at h; cases h
theorem fp_odd : fp % 2 = 1 := by rw [fp_eq]
theorem evenR_even {r : Nat} (hr : r < fp) : evenR r % 2 = 0 := by
  have := fp_odd
  unfold evenR; split <;> omega
theorem rt_parity (A : Nat) : (rtN A).1 % 2 = 0 := by
  unfold rtN
  split
  · exact evenR_even (tryR_lt _ _)
  · split
    · exact evenR_even (tryR_lt _ _)
    · rfl
theorem four_lt_fp : 4 < fp := by rw [fp_eq]; decide
theorem root_four : rtN 4 = (2, true) := by
  have h : (rtN 4).2 = true := by
    have := root_sq (a := 2) two_lt_fp
    rwa [show 2 * 2 % fp = 4 from Nat.mod_eq_of_lt four_lt_fp] at this
  have h1 := root_back h
  have h2 : (rtN 4).1 = 2 ∨ (rtN 4).1 = (fp - 2) % fp := sq_eq (rt_lt 4) two_lt_fp (by rw [h1]; exact (Nat.mod_eq_of_lt four_lt_fp).symm)
  have h3 := rt_parity 4
  have h5 := fp_odd
  have h6 := two_lt_fp
  rcases h2 with e | e
  · exact Prod.ext e h
  · rw [Nat.mod_eq_of_lt (show fp - 2 < fp by omega)] at e
    omega
theorem no_root {r A k : Nat} (h1 : r * r % fp = A) (h0 : 0 < r) (hr : r < fp) (hk : 2 * k = fp - 1) : A ^ k % fp = 1 := by
  rw [← h1, ← Nat.pow_mod, ← Nat.pow_two, ← Nat.pow_mul, hk]; exact fermat_f h0 hr
theorem root_two : (rtN 2).2 = false := by
  cases h : (rtN 2).2
  · rfl
  · exfalso
    have h1 := root_back h
    have h0 : 0 < (rtN 2).1 := by
      rcases Nat.eq_zero_or_pos (rtN 2).1 with e | e
      · rw [e, Nat.mul_zero, Nat.zero_mod] at h1; cases h1
      · exact e
    have h2 := no_root h1 h0 (rt_lt 2) (k := hL) (by have := hL_two; omega)
    rw [two_half] at h2
    have := two_lt_fp; omega
end Go.Proofs.Ytpgichfagodkpaa.Fe
