/- The scalar package: Mul: plain laws. -/
import Derived.Test.YtafhncpaoolljaaGreatM14
namespace Go.Proofs.YtafhncpaoolljaaGreat
set_option maxRecDepth 100000
set_option linter.unusedVariables false
open Go Go.RowKit
theorem mul64_ex (x y : Int) (hx : 0 ≤ x ∧ x < 18446744073709551616) (hy : 0 ≤ y ∧ y < 18446744073709551616) :
   ∃ h l : Int, (∀ w, Calls Tryz.prog 48 #[.int .u64 x, .int .u64 y] w fun e w' => e = .returned (.tuple #[.int .u64 h, .int .u64 l]) ∧ w' = w) ∧
     (0 ≤ h ∧ h < 18446744073709551616) ∧ (0 ≤ l ∧ l < 18446744073709551616) ∧ h * 18446744073709551616 + l = x * y := by
 obtain ⟨x, rfl⟩ := Int.eq_ofNat_of_zero_le hx.1
 obtain ⟨y, rfl⟩ := Int.eq_ofNat_of_zero_le hy.1
 have hb : x * y < 18446744073709551616 * 18446744073709551616 := Nat.mul_lt_mul'' (by omega) (by omega)
 refine ⟨_, _, fun w => mul64_any x y (by omega) (by omega) w, ?_, ?_, ?_⟩
 · omega
 · omega
 · rw [← Int.natCast_mul]; omega
theorem mul_step {x y z o h l l1 c1 v c2 : Int} (hx : 0 ≤ x ∧ x < 18446744073709551616) (hy : 0 ≤ y ∧ y < 18446744073709551616) (hz : 0 ≤ z ∧ z < 18446744073709551616) (ho : 0 ≤ o ∧ o < 18446744073709551616)
   (hv : 0 ≤ v ∧ v < 18446744073709551616) (hl1 : 0 ≤ l1 ∧ l1 < 18446744073709551616)
   (e1 : h * 18446744073709551616 + l = x * y) (e2 : l1 + 18446744073709551616 * c1 = l + z + 0) (e3 : v + 18446744073709551616 * c2 = o + l1 + 0) :
   h + c1 < 18446744073709551616 ∧ h + c1 + c2 < 18446744073709551616 ∧ (h + c1 + c2) * 18446744073709551616 + v = x * y + z + o := by
 have hb : x * y ≤ 18446744073709551615 * 18446744073709551615 := Int.mul_le_mul (by omega) (by omega) (by omega) (by omega)
 generalize x * y = q at *
 refine ⟨?_, ?_, ?_⟩ <;> omega
theorem put_lt (O j v m : Nat) (hO : O < 2 ^ (64 * m)) (hj : j < m) (hv : v < 18446744073709551616) : put O j v < 2 ^ (64 * m) := by
 obtain ⟨d, rfl⟩ : ∃ d, m = j + 1 + d := ⟨m - j - 1, by omega⟩
 have hlo : O % 2 ^ (64 * j) < 2 ^ (64 * j) := Nat.mod_lt _ (Nat.two_pow_pos _)
 have e : 2 ^ (64 * (j + 1 + d)) = 2 ^ (64 * j) * (18446744073709551616 * 2 ^ (64 * d)) := by
   rw [show 64 * (j + 1 + d) = 64 * j + (64 + 64 * d) from by omega, Nat.pow_add, Nat.pow_add]
 rw [put_eq]
 rw [e] at hO ⊢
 have hh : O / 2 ^ (64 * j) / 18446744073709551616 < 2 ^ (64 * d) := by
   rw [Nat.div_div_eq_div_mul]
   exact (Nat.div_lt_iff_lt_mul (by have := Nat.two_pow_pos (64 * j); omega)).2 (by rw [Nat.mul_comm, Nat.mul_assoc]; exact hO)
 generalize O / 2 ^ (64 * j) / 18446744073709551616 = hi at hh ⊢
 generalize O % 2 ^ (64 * j) = lo at hlo ⊢
 have h1 : v + 18446744073709551616 * hi + 1 ≤ 18446744073709551616 * 2 ^ (64 * d) := by omega
 have h2 := Nat.mul_le_mul_left (2 ^ (64 * j)) h1
 rw [Nat.mul_add] at h2
 omega
theorem word_mod (Y k : Nat) : Y % 2 ^ (64 * (k + 1)) = Y % 2 ^ (64 * k) + 2 ^ (64 * k) * (Y / 2 ^ (64 * k) % 18446744073709551616) := by
 rw [show 64 * (k + 1) = 64 * k + 64 from by omega, Nat.pow_add, Nat.mod_mul]
theorem mul_inner {O A x Y i k z z' v : Nat} (hO : O + z * 2 ^ (64 * (i + k)) = A + x * (Y % 2 ^ (64 * k)) * 2 ^ (64 * i))
   (he : z' * 18446744073709551616 + v = x * (Y / 2 ^ (64 * k) % 18446744073709551616) + z + O / 2 ^ (64 * (i + k)) % 18446744073709551616) :
   put O (i + k) v + z' * 2 ^ (64 * (i + (k + 1))) = A + x * (Y % 2 ^ (64 * (k + 1))) * 2 ^ (64 * i) := by
 have h := put_add O (i + k) v
 rw [word_mod, show 64 * (i + (k + 1)) = 64 * (i + k) + 64 from by omega, Nat.pow_add _ _ 64]
 have eK : 2 ^ (64 * (i + k)) = 2 ^ (64 * k) * 2 ^ (64 * i) := by rw [← Nat.pow_add]; congr 1; omega
 generalize O / 2 ^ (64 * (i + k)) % 18446744073709551616 = o at h he
 generalize Y / 2 ^ (64 * k) % 18446744073709551616 = y at he ⊢
 generalize put O (i + k) v = O' at h ⊢
 rw [eK] at h hO ⊢
 generalize Y % 2 ^ (64 * k) = t at hO ⊢
 generalize 2 ^ (64 * k) = K at h hO ⊢
 generalize 2 ^ (64 * i) = J at h hO ⊢
 have h3 : (z' * 18446744073709551616 + v) * (K * J) = (x * y + z + o) * (K * J) := by rw [he]
 simp only [Nat.add_mul] at h3
 have e1 : x * (t + K * y) * J = x * t * J + x * y * (K * J) := by
   rw [Nat.mul_add, Nat.add_mul, Nat.mul_left_comm x K y]; simp only [Nat.mul_left_comm, Nat.mul_comm]
 have e2 : z' * (K * J * 2 ^ 64) = z' * 18446744073709551616 * (K * J) := by
   rw [Nat.mul_comm (K * J), ← Nat.mul_assoc]
 rw [e1, e2]
 clear e1 e2 he
 generalize K * J = M at h h3 hO ⊢
 generalize x * t * J = q1 at h h3 hO ⊢
 generalize x * y * M = q2 at h h3 hO ⊢
 generalize z' * 18446744073709551616 * M = q3 at h h3 hO ⊢
 generalize z * M = q4 at h h3 hO ⊢
 generalize o * M = q5 at h h3 hO ⊢
 generalize v * M = q6 at h h3 hO ⊢
 omega
theorem mul_outer {O X Y i z : Nat} (hY : Y < 2 ^ 256) (hlt : O < 2 ^ (64 * (i + 4)))
   (hO : O + z * 2 ^ (64 * (i + 4)) = X % 2 ^ (64 * i) * Y + X / 2 ^ (64 * i) % 18446744073709551616 * (Y % 2 ^ (64 * 4)) * 2 ^ (64 * i)) :
   put O (i + 4) z = X % 2 ^ (64 * (i + 1)) * Y := by
 have h := put_add O (i + 4) z
 rw [Nat.div_eq_of_lt hlt] at h
 rw [Nat.mod_eq_of_lt (a := Y) hY] at hO
 rw [word_mod, Nat.add_mul]
 have e : 2 ^ (64 * i) * (X / 2 ^ (64 * i) % 18446744073709551616) * Y = X / 2 ^ (64 * i) % 18446744073709551616 * Y * 2 ^ (64 * i) := by
   simp only [Nat.mul_left_comm, Nat.mul_comm]
 rw [e]; omega
theorem mul_lt {X Y i : Nat} (hY : Y < 2 ^ 256) : X % 2 ^ (64 * i) * Y < 2 ^ (64 * (i + 4)) := by
 rw [show 64 * (i + 4) = 64 * i + 256 from by omega, Nat.pow_add]
 exact Nat.mul_lt_mul'' (Nat.mod_lt _ (Nat.two_pow_pos _)) hY
end Go.Proofs.YtafhncpaoolljaaGreat
