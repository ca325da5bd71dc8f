/- Plain laws of numbers in base 256 (the same as of words of 64 bits). -/
import Derived.Test.YtilehlgnkfjcpaaScalarRefC
namespace Go.Proofs.Ytilehlgnkfjcpaa
open Go Go.RowKit

@[irreducible] def dig8 (n i : Nat) : Int := ((n / 2 ^ (8 * i) % 256 : Nat) : Int)
theorem pow8 (i : Nat) : (2 : Nat) ^ (8 * i) = 256 ^ i := by rw [Nat.pow_mul]
theorem dig8_eq (n i : Nat) : digit n i = dig8 n i := by unfold digit dig8; rw [pow8]

/-- A number with its word j set to v. -/
def put8 (O j v : Nat) : Nat := O - O / 2 ^ (8 * j) % 256 * 2 ^ (8 * j) + v * 2 ^ (8 * j)

theorem digit_split (lo j v hi i : Nat) (hlo : lo < 2 ^ (8 * j)) (hv : v < 256) :
    dig8 (lo + 2 ^ (8 * j) * (v + 256 * hi)) i = if i < j then dig8 lo i else if i = j then (v : Int) else dig8 hi (i - j - 1) := by
  unfold dig8
  split
  · rename_i h
    obtain ⟨d, hd⟩ : ∃ d, 8 * j = 8 * i + (8 + d) := ⟨8 * (j - i - 1), by omega⟩
    congr 1
    rw [hd, Nat.pow_add, Nat.pow_add]
    rw [show lo + 2 ^ (8 * i) * (2 ^ 8 * 2 ^ d) * (v + 256 * hi) = lo + 2 ^ (8 * i) * (2 ^ 8 * (2 ^ d * (v + 256 * hi))) from by simp only [Nat.mul_assoc]]
    rw [Nat.add_mul_div_left _ _ (Nat.two_pow_pos _)]
    omega
  · split
    · rename_i h; subst h
      rw [Nat.add_mul_div_left _ _ (Nat.two_pow_pos _), Nat.div_eq_of_lt hlo]
      omega
    · rename_i h1 h2
      congr 1
      obtain ⟨d, hd⟩ : ∃ d, i = j + 1 + d := ⟨i - j - 1, by omega⟩
      subst hd
      rw [show j + 1 + d - j - 1 = d from by omega, show 8 * (j + 1 + d) = 8 * j + (8 + 8 * d) from by omega, Nat.pow_add, ← Nat.div_div_eq_div_mul, Nat.add_mul_div_left _ _ (Nat.two_pow_pos _), Nat.div_eq_of_lt hlo, Nat.pow_add, ← Nat.div_div_eq_div_mul]
      congr 2; omega

theorem split8_at (O j : Nat) : O = O % 2 ^ (8 * j) + 2 ^ (8 * j) * (O / 2 ^ (8 * j) % 256 + 256 * (O / 2 ^ (8 * j) / 256)) := by
  have h1 := Nat.div_add_mod O (2 ^ (8 * j))
  have h2 := Nat.div_add_mod (O / 2 ^ (8 * j)) 256
  rw [Nat.add_comm (_ % 256), h2]; omega
theorem put8_eq (O j v : Nat) : put8 O j v = O % 2 ^ (8 * j) + 2 ^ (8 * j) * (v + 256 * (O / 2 ^ (8 * j) / 256)) := by
  have h := split8_at O j
  unfold put8
  generalize O % 2 ^ (8 * j) = lo at h ⊢
  generalize hm : O / 2 ^ (8 * j) % 256 = mid at h ⊢
  generalize O / 2 ^ (8 * j) / 256 = hi at h ⊢
  rw [Nat.mul_add] at h ⊢
  rw [Nat.mul_comm mid, Nat.mul_comm v]; omega

/-- The sum of a number with word j set, by its old word. -/
theorem put8_add (O j v : Nat) : put8 O j v + O / 2 ^ (8 * j) % 256 * 2 ^ (8 * j) = O + v * 2 ^ (8 * j) := by
  have h := split8_at O j
  rw [put8_eq]
  generalize O % 2 ^ (8 * j) = lo at h ⊢
  generalize O / 2 ^ (8 * j) / 256 = hi at h ⊢
  generalize O / 2 ^ (8 * j) % 256 = mid at h ⊢
  rw [Nat.mul_add] at h ⊢
  rw [Nat.mul_comm v, Nat.mul_comm mid]; omega

theorem put8_lt (O j v m : Nat) (hO : O < 2 ^ (8 * m)) (hj : j < m) (hv : v < 256) : put8 O j v < 2 ^ (8 * m) := by
  obtain ⟨d, rfl⟩ : ∃ d, m = j + 1 + d := ⟨m - j - 1, by omega⟩
  have hlo : O % 2 ^ (8 * j) < 2 ^ (8 * j) := Nat.mod_lt _ (Nat.two_pow_pos _)
  have e : 2 ^ (8 * (j + 1 + d)) = 2 ^ (8 * j) * (256 * 2 ^ (8 * d)) := by
    rw [show 8 * (j + 1 + d) = 8 * j + (8 + 8 * d) from by omega, Nat.pow_add, Nat.pow_add]
  rw [put8_eq]
  rw [e] at hO ⊢
  have hh : O / 2 ^ (8 * j) / 256 < 2 ^ (8 * d) := by
    rw [Nat.div_div_eq_div_mul]
    exact (Nat.div_lt_iff_lt_mul (by have := Nat.two_pow_pos (8 * j); omega)).2 (by rw [Nat.mul_comm, Nat.mul_assoc]; exact hO)
  generalize O / 2 ^ (8 * j) / 256 = hi at hh ⊢
  generalize O % 2 ^ (8 * j) = lo at hlo ⊢
  have h1 : v + 256 * hi + 1 ≤ 256 * 2 ^ (8 * d) := by omega
  have h2 := Nat.mul_le_mul_left (2 ^ (8 * j)) h1
  rw [Nat.mul_add] at h2
  omega

theorem byte_mod (Y k : Nat) : Y % 2 ^ (8 * (k + 1)) = Y % 2 ^ (8 * k) + 2 ^ (8 * k) * (Y / 2 ^ (8 * k) % 256) := by
  rw [show 8 * (k + 1) = 8 * k + 8 from by omega, Nat.pow_add, Nat.mod_mul]

/-- One inner round. -/
theorem mul8_inner {O A x Y i k z z' v : Nat} (hO : O + z * 2 ^ (8 * (i + k)) = A + x * (Y % 2 ^ (8 * k)) * 2 ^ (8 * i))
    (he : z' * 256 + v = x * (Y / 2 ^ (8 * k) % 256) + z + O / 2 ^ (8 * (i + k)) % 256) :
    put8 O (i + k) v + z' * 2 ^ (8 * (i + (k + 1))) = A + x * (Y % 2 ^ (8 * (k + 1))) * 2 ^ (8 * i) := by
  have h := put8_add O (i + k) v
  rw [byte_mod, show 8 * (i + (k + 1)) = 8 * (i + k) + 8 from by omega, Nat.pow_add _ _ 8]
  have eK : 2 ^ (8 * (i + k)) = 2 ^ (8 * k) * 2 ^ (8 * i) := by rw [← Nat.pow_add]; congr 1; omega
  generalize O / 2 ^ (8 * (i + k)) % 256 = o at h he
  generalize Y / 2 ^ (8 * k) % 256 = y at he ⊢
  generalize put8 O (i + k) v = O' at h ⊢
  rw [eK] at h hO ⊢
  generalize Y % 2 ^ (8 * k) = t at hO ⊢
  generalize 2 ^ (8 * k) = K at h hO ⊢
  generalize 2 ^ (8 * i) = J at h hO ⊢
  have h3 : (z' * 256 + v) * (K * J) = (x * y + z + o) * (K * J) := by rw [he]
  simp only [Nat.add_mul] at h3
  have e1 : x * (t + K * y) * J = x * t * J + x * y * (K * J) := by
    rw [Nat.mul_add, Nat.add_mul, Nat.mul_left_comm x K y]; simp only [Nat.mul_left_comm, Nat.mul_comm]
  have e2 : z' * (K * J * 2 ^ 8) = z' * 256 * (K * J) := by
    rw [Nat.mul_comm (K * J), ← Nat.mul_assoc]
  rw [e1, e2]
  clear e1 e2 he
  generalize K * J = M at h h3 hO ⊢
  generalize x * t * J = q1 at h h3 hO ⊢
  generalize x * y * M = q2 at h h3 hO ⊢
  generalize z' * 256 * M = q3 at h h3 hO ⊢
  generalize z * M = q4 at h h3 hO ⊢
  generalize o * M = q5 at h h3 hO ⊢
  generalize v * M = q6 at h h3 hO ⊢
  omega

/-- The end of an outer round. -/
theorem mul8_outer {O X Y i z : Nat} (hY : Y < 2 ^ 256) (hlt : O < 2 ^ (8 * (i + 32)))
    (hO : O + z * 2 ^ (8 * (i + 32)) = X % 2 ^ (8 * i) * Y + X / 2 ^ (8 * i) % 256 * (Y % 2 ^ (8 * 32)) * 2 ^ (8 * i)) :
    put8 O (i + 32) z = X % 2 ^ (8 * (i + 1)) * Y := by
  have h := put8_add O (i + 32) z
  rw [Nat.div_eq_of_lt hlt] at h
  rw [Nat.mod_eq_of_lt (a := Y) hY] at hO
  rw [byte_mod, Nat.add_mul]
  have e : 2 ^ (8 * i) * (X / 2 ^ (8 * i) % 256) * Y = X / 2 ^ (8 * i) % 256 * Y * 2 ^ (8 * i) := by
    simp only [Nat.mul_left_comm, Nat.mul_comm]
  rw [e]; omega
theorem mul8_lt {X Y i : Nat} (hY : Y < 2 ^ 256) : X % 2 ^ (8 * i) * Y < 2 ^ (8 * (i + 32)) := by
  rw [show 8 * (i + 32) = 8 * i + 256 from by omega, Nat.pow_add]
  exact Nat.mul_lt_mul'' (Nat.mod_lt _ (Nat.two_pow_pos _)) hY

theorem dcells_put (O c j v : Nat) (hv : v < 256) : (dcells O c).setIfInBounds j (.int .i64 (v : Int)) = dcells (put8 O j v) c := by
  apply Array.ext
  · simp [dcells]
  · intro i h1 h2
    rw [Array.getElem_setIfInBounds (by simpa using h1)]
    simp only [dcells, List.getElem_toArray, List.getElem_map, List.getElem_range, dig8_eq]
    have hlo : O % 2 ^ (8 * j) < 2 ^ (8 * j) := Nat.mod_lt _ (Nat.two_pow_pos _)
    rw [put8_eq, digit_split _ _ _ _ _ hlo hv]
    split
    · rename_i h; subst h; simp
    · rename_i h
      have := digit_split _ j (O / 2 ^ (8 * j) % 256) (O / 2 ^ (8 * j) / 256) i hlo (Nat.mod_lt _ (by omega))
      rw [← split8_at O j] at this
      rw [this, if_neg (by omega : ¬ i = j), if_neg (by omega : ¬ i = j)]
end Go.Proofs.Ytilehlgnkfjcpaa
