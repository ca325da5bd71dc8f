/- Numbers of five digits of base 2^32: plain laws. Nothing of the program. -/
import Derived.Test.YtbjapmhfnegmeaaBase
namespace Go.Proofs.Ytbjapmhfnegmeaa.Big
set_option linter.unusedVariables false
open Go Go.RowKit

def pw (i : Nat) : Nat := 2 ^ (32 * i)
theorem pw_pos (i : Nat) : 0 < pw i := Nat.two_pow_pos _
theorem pw_succ (i : Nat) : pw (i + 1) = pw i * 4294967296 := by unfold pw; rw [Nat.mul_add, Nat.pow_add]
theorem pw_zero : pw 0 = 1 := rfl
/-- Digit i. -/
def bd (v i : Nat) : Nat := v / pw i % 4294967296
theorem bd_lt (v i : Nat) : bd v i < 4294967296 := Nat.mod_lt _ (by omega)
theorem mod_pw (v i : Nat) : v % pw (i + 1) = v % pw i + pw i * bd v i := by rw [pw_succ, Nat.mod_mul]; rfl
theorem div_pw (v i : Nat) : v / pw i = bd v i + 4294967296 * (v / pw (i + 1)) := by
  rw [pw_succ, ← Nat.div_div_eq_div_mul]
  unfold bd
  have := Nat.div_add_mod (v / pw i) 4294967296
  omega
/-- What is over behind i digits of a s + b t + m. -/
def cy (a s b t m i : Nat) : Nat := (a % pw i * s + b % pw i * t + m) / pw i
theorem cy_zero (a s b t m : Nat) : cy a s b t m 0 = m := by unfold cy; rw [pw_zero]; simp [Nat.mod_one]
theorem cy_step (a s b t m i : Nat) : cy a s b t m (i + 1) = (bd a i * s + bd b i * t + cy a s b t m i) / 4294967296 := by
  unfold cy
  rw [mod_pw, mod_pw, show (a % pw i + pw i * bd a i) * s + (b % pw i + pw i * bd b i) * t + m = a % pw i * s + b % pw i * t + m + pw i * (bd a i * s + bd b i * t) by
    rw [Nat.add_mul, Nat.add_mul, Nat.mul_add, Nat.mul_assoc, Nat.mul_assoc]; omega, pw_succ, ← Nat.div_div_eq_div_mul, Nat.add_mul_div_left _ _ (pw_pos i)]
  congr 1; omega
theorem cy_digit (a s b t m i : Nat) : bd (a * s + b * t + m) i = (bd a i * s + bd b i * t + cy a s b t m i) % 4294967296 := by
  have ha := Nat.div_add_mod a (pw i); have hb := Nat.div_add_mod b (pw i)
  have e : (a * s + b * t + m) / pw i = a / pw i * s + b / pw i * t + cy a s b t m i := by
    unfold cy
    have h : a * s + b * t + m = a % pw i * s + b % pw i * t + m + pw i * (a / pw i * s + b / pw i * t) := by
      conv => lhs; rw [← ha, ← hb]
      rw [Nat.add_mul, Nat.add_mul, Nat.mul_add, Nat.mul_assoc, Nat.mul_assoc]; omega
    rw [h, Nat.add_mul_div_left _ _ (pw_pos i)]; omega
  conv => lhs; unfold bd
  rw [e, div_pw a, div_pw b]
  rw [show (bd a i + 4294967296 * (a / pw (i + 1))) * s + (bd b i + 4294967296 * (b / pw (i + 1))) * t + cy a s b t m i = bd a i * s + bd b i * t + cy a s b t m i + 4294967296 * (a / pw (i + 1) * s + b / pw (i + 1) * t) by
    rw [Nat.add_mul, Nat.add_mul, Nat.mul_add, Nat.mul_assoc, Nat.mul_assoc]; omega, Nat.add_mul_mod_self_left]
theorem bd_mod (v i : Nat) (hi : i < 5) : bd (v % pw 5) i = bd v i := by
  have h : pw 5 = pw i * (4294967296 * pw (4 - i)) := by
    have : pw 5 = pw (i + 1 + (4 - i)) := by congr 1; omega
    rw [this]; unfold pw; rw [Nat.mul_add, Nat.pow_add, Nat.mul_add, Nat.pow_add, Nat.mul_assoc]
  unfold bd
  rw [h, Nat.mod_mul_right_div_self, Nat.mod_mul_right_mod]
/-- What is under behind i digits of x - y. -/
def un (x y i : Nat) : Nat := if x % pw i < y % pw i then 1 else 0
theorem un_le (x y i : Nat) : un x y i ≤ 1 := by unfold un; split <;> omega
theorem un_zero (x y : Nat) : un x y 0 = 0 := by unfold un; rw [pw_zero]; simp [Nat.mod_one]
theorem un_step (x y i : Nat) : un x y (i + 1) = 1 - (bd x i + 4294967296 - bd y i - un x y i) / 4294967296 := by
  have hx := bd_lt x i; have hy := bd_lt y i
  have h1 := Nat.mod_lt x (pw_pos i); have h2 := Nat.mod_lt y (pw_pos i)
  unfold un
  rw [mod_pw, mod_pw]
  rcases Nat.lt_trichotomy (bd x i) (bd y i) with h | h | h
  · have : pw i * (bd x i + 1) ≤ pw i * bd y i := Nat.mul_le_mul (Nat.le_refl _) h
    rw [Nat.mul_add, Nat.mul_one] at this
    rw [if_pos (by omega)]
    split <;> omega
  · rw [h]
    by_cases h3 : x % pw i < y % pw i
    · rw [if_pos (by omega), if_pos h3]; omega
    · rw [if_neg (by omega), if_neg h3]; omega
  · have : pw i * (bd y i + 1) ≤ pw i * bd x i := Nat.mul_le_mul (Nat.le_refl _) h
    rw [Nat.mul_add, Nat.mul_one] at this
    rw [if_neg (by omega)]
    split <;> omega
theorem un_digit (x y i : Nat) (h : y ≤ x) : bd (x - y) i = (bd x i + 4294967296 - bd y i - un x y i) % 4294967296 := by
  have hx := bd_lt x i; have hy := bd_lt y i
  have h1 := Nat.mod_lt x (pw_pos i); have h2 := Nat.mod_lt y (pw_pos i)
  have ex := Nat.div_add_mod x (pw i); have ey := Nat.div_add_mod y (pw i)
  have hq : y / pw i ≤ x / pw i := Nat.div_le_div_right h
  have e : (x - y) / pw i = x / pw i - y / pw i - un x y i := by
    unfold un
    split
    · rename_i hl
      have hlt : y / pw i < x / pw i := by
        rcases Nat.lt_or_ge (y / pw i) (x / pw i) with h3 | h3
        · exact h3
        · have : x / pw i = y / pw i := by omega
          rw [this] at ex; omega
      obtain ⟨k, hk⟩ : ∃ k, x / pw i = y / pw i + 1 + k := ⟨x / pw i - y / pw i - 1, by omega⟩
      have e2 : x - y = (pw i - (y % pw i - x % pw i)) + pw i * k := by
        rw [hk, Nat.mul_add, Nat.mul_add, Nat.mul_one] at ex
        omega
      rw [e2, Nat.add_mul_div_left _ _ (pw_pos i), Nat.div_eq_of_lt (by omega)]; omega
    · rename_i hl
      obtain ⟨k, hk⟩ : ∃ k, x / pw i = y / pw i + k := ⟨x / pw i - y / pw i, by omega⟩
      have e2 : x - y = (x % pw i - y % pw i) + pw i * k := by
        rw [hk, Nat.mul_add] at ex
        omega
      rw [e2, Nat.add_mul_div_left _ _ (pw_pos i), Nat.div_eq_of_lt (by omega)]; omega
  have u1 := un_le x y i
  have hle : y / pw i + un x y i ≤ x / pw i := by
    unfold un
    split
    · rename_i hl
      rcases Nat.lt_or_ge (y / pw i) (x / pw i) with h3 | h3
      · omega
      · have : x / pw i = y / pw i := by omega
        rw [this] at ex; omega
    · omega
  have dx := div_pw x i; have dy := div_pw y i
  conv => lhs; unfold bd
  rw [e]
  generalize un x y i = u at u1 hle ⊢
  generalize x / pw i = X at dx hle ⊢
  generalize y / pw i = Y at dy hle ⊢
  omega
/-- From the top on: equal above, unlike here. -/
theorem below_here (x y i : Nat) (h : x / pw (i + 1) = y / pw (i + 1)) (hne : bd x i ≠ bd y i) : (x < y) ↔ bd x i < bd y i := by
  have dx := div_pw x i; have dy := div_pw y i
  rw [h] at dx
  constructor
  · intro hl
    have := Nat.div_le_div_right (c := pw i) (Nat.le_of_lt hl)
    omega
  · intro hl
    rcases Nat.lt_or_ge x y with h3 | h3
    · exact h3
    · have := Nat.div_le_div_right (c := pw i) h3
      omega
theorem below_next (x y i : Nat) (h : x / pw (i + 1) = y / pw (i + 1)) (he : bd x i = bd y i) : x / pw i = y / pw i := by
  rw [div_pw x i, div_pw y i, h, he]
end Go.Proofs.Ytbjapmhfnegmeaa.Big
