/- Numbers in words of 64 bits and in bytes, the lowest first. Nothing of the program. -/
import Derived.Test.YtpgichfagodkpaaBase
namespace Go.Proofs.Ytpgichfagodkpaa
set_option linter.unusedVariables false
open Go Go.RowKit

/-- The number of bytes, the lowest first. -/
def leNat : List UInt8 → Nat
  | [] => 0
  | b :: r => b.toNat + 256 * leNat r
theorem leNat_lt (l : List UInt8) : leNat l < 256 ^ l.length := by
  induction l with
  | nil => simp [leNat]
  | cons b r ih =>
    have := b.toNat_lt
    simp only [leNat, List.length_cons, Nat.pow_succ]; omega
theorem leNat_append (l r : List UInt8) : leNat (l ++ r) = leNat l + 256 ^ l.length * leNat r := by
  induction l with
  | nil => simp [leNat]
  | cons b l ih =>
    simp only [List.cons_append, leNat, List.length_cons, Nat.pow_succ, ih, Nat.mul_add, Nat.mul_comm (256 ^ l.length) 256, Nat.mul_assoc]; omega
theorem leNat_snoc (l : List UInt8) (c : UInt8) : leNat (l ++ [c]) = leNat l + 256 ^ l.length * c.toNat := by
  rw [leNat_append]; simp [leNat]
theorem take_snoc (s : ByteArray) (k : Nat) (h : k < s.size) : s.data.toList.take (k + 1) = s.data.toList.take k ++ [s[k]] := by
  rw [List.take_succ_eq_append_getElem (by simpa using h)]; rfl

/-- The words of a number, c of them. -/
def wcells (n c : Nat) : Array Value := ((List.range c).map fun j => Value.int .u64 (limb n j)).toArray
theorem wcells_size (n c : Nat) : (wcells n c).size = c := by simp [wcells]
theorem wcells_get (n c j : Nat) (h : j < c) : (wcells n c)[j]? = some (.int .u64 (limb n j)) := by simp [wcells, h]

theorem limb_word (n b k j : Nat) (hn : n < 256 ^ k) (hb : b < 256) :
    limb (n + 256 ^ k * b) j = if j = k / 8 then ((n / 2 ^ (64 * j) % 18446744073709551616 ||| b * 2 ^ (8 * (k % 8)) : Nat) : Int) else limb n j := by
  have e256 : ∀ q, 256 ^ q = 2 ^ (8 * q) := fun q => by rw [Nat.pow_mul]
  have hk : 8 * k = 64 * (k / 8) + 8 * (k % 8) := by omega
  rw [e256] at hn ⊢
  rw [hk, Nat.pow_add] at hn ⊢
  generalize hq : k / 8 = q at hn ⊢
  generalize hr : k % 8 = r at hn ⊢
  have hr8 : r < 8 := by omega
  clear hk hq hr e256
  have hx : n / 2 ^ (64 * q) < 2 ^ (8 * r) := (Nat.div_lt_iff_lt_mul (Nat.two_pow_pos _)).2 (by rw [Nat.mul_comm]; exact hn)
  have h64 : b * 2 ^ (8 * r) + 2 ^ (8 * r) ≤ 2 ^ 64 := by
    have : (b + 1) * 2 ^ (8 * r) ≤ 256 * 2 ^ (56) := Nat.mul_le_mul (by omega) (Nat.pow_le_pow_right (by omega) (by omega))
    rw [Nat.add_mul] at this; omega
  unfold limb
  congr 1
  split
  · rename_i h; subst h
    have e : (n + 2 ^ (64 * j) * 2 ^ (8 * r) * b) / 2 ^ (64 * j) = n / 2 ^ (64 * j) + b * 2 ^ (8 * r) := by
      rw [Nat.mul_assoc, Nat.add_mul_div_left _ _ (Nat.two_pow_pos _), Nat.mul_comm b]
    rw [e, Nat.mod_eq_of_lt (a := n / 2 ^ (64 * j)) (by omega), Nat.or_comm, nat_join (8 * r) _ _ (Nat.mul_mod_left _ _) hx]
    generalize n / 2 ^ (64 * j) = x at hx ⊢
    generalize b * 2 ^ (8 * r) = y at h64 ⊢
    generalize 2 ^ (8 * r) = z at h64 hx
    rw [Nat.mod_eq_of_lt (by omega)]; omega
  · rename_i h
    rcases Nat.lt_or_gt_of_ne h with h | h
    · obtain ⟨d, hd⟩ : ∃ d, 64 * q = 64 * j + (64 + d) := ⟨64 * (q - j - 1), by omega⟩
      have e : n + 2 ^ (64 * q) * 2 ^ (8 * r) * b = n + 2 ^ (64 * j) * (2 ^ 64 * (2 ^ d * 2 ^ (8 * r) * b)) := by
        rw [hd, Nat.pow_add, Nat.pow_add]; simp only [Nat.mul_assoc]
      rw [e, Nat.add_mul_div_left _ _ (Nat.two_pow_pos _)]
      omega
    · have hle : 2 ^ (64 * q) * 2 ^ 64 ≤ 2 ^ (64 * j) := by rw [← Nat.pow_add]; exact Nat.pow_le_pow_right (by omega) (by omega)
      have h1 : 2 ^ (64 * q) * (b * 2 ^ (8 * r) + 2 ^ (8 * r)) ≤ 2 ^ (64 * q) * 2 ^ 64 := Nat.mul_le_mul (Nat.le_refl _) h64
      have h2 : n + 2 ^ (64 * q) * 2 ^ (8 * r) * b < 2 ^ (64 * q) * (b * 2 ^ (8 * r) + 2 ^ (8 * r)) := by
        rw [Nat.mul_add, Nat.mul_comm b, ← Nat.mul_assoc]; omega
      have h3 : n < 2 ^ (64 * j) := by
        have := Nat.le_add_right n (2 ^ (64 * q) * 2 ^ (8 * r) * b); omega
      rw [Nat.div_eq_of_lt (by omega), Nat.div_eq_of_lt h3]

theorem word_or (n b k : Nat) (hn : n < 256 ^ k) (hb : b < 256) :
    bits .or .u64 (limb n (k / 8)) (IntKind.u64.wrap (IntKind.u64.wrap (b : Int) * 2 ^ (8 * (k % 8)))) = limb (n + 256 ^ k * b) (k / 8) := by
  have hr : k % 8 < 8 := by omega
  have h64 : b * 2 ^ (8 * (k % 8)) < 18446744073709551616 := by
    have : b * 2 ^ (8 * (k % 8)) ≤ 255 * 2 ^ 56 := Nat.mul_le_mul (by omega) (Nat.pow_le_pow_right (by omega) (by omega))
    omega
  rw [limb_word n b k _ hn hb, if_pos rfl]
  have e : IntKind.u64.wrap (IntKind.u64.wrap (b : Int) * 2 ^ (8 * (k % 8))) = ((b * 2 ^ (8 * (k % 8)) : Nat) : Int) := by
    rw [IntKind.wrap_u64, IntKind.wrap_u64, Int.emod_eq_of_lt (a := (b : Int)) (by omega) (by omega)]
    rw [show ((2 : Int) ^ (8 * (k % 8))) = ((2 ^ (8 * (k % 8)) : Nat) : Int) from by simp, ← Int.natCast_mul]
    rw [Int.emod_eq_of_lt (by omega) (by omega)]
  rw [e]; unfold limb
  exact u64_or_nat _ _ (by omega) h64

theorem wcells_step (n b k c : Nat) (hn : n < 256 ^ k) (hb : b < 256) :
    (wcells n c).setIfInBounds (k / 8) (.int .u64 (limb (n + 256 ^ k * b) (k / 8))) = wcells (n + 256 ^ k * b) c := by
  apply Array.ext
  · simp [wcells]
  · intro i h1 h2
    rw [Array.getElem_setIfInBounds (by simpa using h1)]
    split
    · rename_i h; subst h; simp [wcells]
    · rename_i h; simp only [wcells, List.getElem_toArray, List.getElem_map, List.getElem_range]
      rw [limb_word n b k i hn hb, if_neg (by omega)]

/-- The number of a string's bytes. -/
def num (s : ByteArray) : Nat := leNat s.data.toList
/-- k bytes of a number, the lowest first. -/
def leList : Nat → Nat → List UInt8
  | 0, _ => []
  | k + 1, n => UInt8.ofNat (n % 256) :: leList k (n / 256)
theorem leList_length (k n : Nat) : (leList k n).length = k := by
  induction k generalizing n with
  | zero => rfl
  | succ k ih => simp [leList, ih]
theorem leNat_leList (k n : Nat) : leNat (leList k n) = n % 256 ^ k := by
  induction k generalizing n with
  | zero => simp [leList, leNat, Nat.mod_one]
  | succ k ih =>
    simp only [leList, leNat, ih]
    rw [Nat.pow_succ, Nat.mul_comm (256 ^ k) 256, Nat.mod_mul]
    simp
theorem leList_get (k n i : Nat) (h : i < k) : (leList k n)[i]? = some (UInt8.ofNat (n / 256 ^ i % 256)) := by
  induction k generalizing n i with
  | zero => omega
  | succ k ih =>
    cases i with
    | zero => simp [leList]
    | succ i => simp only [leList, List.getElem?_cons_succ]; rw [ih _ _ (by omega), Nat.div_div_eq_div_mul, Nat.pow_succ, Nat.mul_comm 256]
theorem leNat_inj : ∀ (l r : List UInt8), l.length = r.length → leNat l = leNat r → l = r
  | [], [], _, _ => rfl
  | [], _ :: _, h, _ => by simp at h
  | _ :: _, [], h, _ => by simp at h
  | a :: l, b :: r, h, e => by
    have ha := a.toNat_lt; have hb := b.toNat_lt
    simp only [leNat] at e
    have h1 : a.toNat = b.toNat := by omega
    have h2 : leNat l = leNat r := by omega
    rw [UInt8.toNat_inj.1 h1, leNat_inj l r (by simpa using h) h2]

/-- Bytes that are written so far. -/
def bcells (n k c : Nat) : Array Value := ((List.range c).map fun i => Value.int .u8 ((if i < k then n / 256 ^ i % 256 else 0 : Nat) : Int)).toArray
theorem bcells_step (n k c : Nat) : (bcells n k c).setIfInBounds k (.int .u8 ((n / 256 ^ k % 256 : Nat) : Int)) = bcells n (k + 1) c := by
  apply Array.ext
  · simp [bcells]
  · intro i h1 h2
    rw [Array.getElem_setIfInBounds (by simpa using h1)]
    simp only [bcells, List.getElem_toArray, List.getElem_map, List.getElem_range]
    split
    · rename_i h; subst h; simp
    · rename_i h
      by_cases hi : i < k
      · rw [if_pos hi, if_pos (by omega)]
      · rw [if_neg hi, if_neg (by omega)]
theorem bcells_all (n c : Nat) : bcells n c c = ((leList c n).map fun u => Value.int .u8 (u.toNat : Int)).toArray := by
  apply Array.ext'
  apply List.ext_getElem?
  intro i
  by_cases h : i < c
  · simp [bcells, h, leList_get c n i h]
  · simp [bcells, h, leList_length]

theorem byte_of (n k : Nat) : limb n (k / 8) / 2 ^ (8 * (k % 8)) % 256 = ((n / 256 ^ k % 256 : Nat) : Int) := by
  have e : (256 : Nat) ^ k = 2 ^ (64 * (k / 8)) * 2 ^ (8 * (k % 8)) := by
    rw [← Nat.pow_add, show (256 : Nat) = 2 ^ 8 from rfl, ← Nat.pow_mul]; congr 1; omega
  have hr : k % 8 < 8 := by omega
  rw [e, ← Nat.div_div_eq_div_mul]
  unfold limb
  rw [show ((2 : Int) ^ (8 * (k % 8))) = ((2 ^ (8 * (k % 8)) : Nat) : Int) from by simp, ← Int.natCast_ediv]
  generalize n / 2 ^ (64 * (k / 8)) = x
  generalize k % 8 = r at hr
  rcases (by omega : r = 0 ∨ r = 1 ∨ r = 2 ∨ r = 3 ∨ r = 4 ∨ r = 5 ∨ r = 6 ∨ r = 7) with rfl | rfl | rfl | rfl | rfl | rfl | rfl | rfl <;> simp <;> omega

/-- 32 bytes of a number. -/
def sbytes (n : Nat) : ByteArray := ⟨(leList 32 n).toArray⟩
end Go.Proofs.Ytpgichfagodkpaa
