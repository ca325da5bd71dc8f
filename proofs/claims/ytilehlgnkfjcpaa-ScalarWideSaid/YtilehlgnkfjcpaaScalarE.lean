/- The scalar package: plain laws of words that are set; Reduce; Is. -/
import Derived.Test.YtilehlgnkfjcpaaScalarD
import Derived.Shelf.Bits.Mul64
namespace Go.Proofs.Ytilehlgnkfjcpaa
open Go Go.RowKit

/-- A number with its word j set to v. -/
def put (O j v : Nat) : Nat := O - O / 2 ^ (64 * j) % 18446744073709551616 * 2 ^ (64 * j) + v * 2 ^ (64 * j)

theorem limb_split (lo j v hi i : Nat) (hlo : lo < 2 ^ (64 * j)) (hv : v < 18446744073709551616) :
    limb (lo + 2 ^ (64 * j) * (v + 18446744073709551616 * hi)) i = if i < j then limb lo i else if i = j then (v : Int) else limb hi (i - j - 1) := by
  unfold limb
  split
  · rename_i h
    obtain ⟨d, hd⟩ : ∃ d, 64 * j = 64 * i + (64 + d) := ⟨64 * (j - i - 1), by omega⟩
    congr 1
    rw [hd, Nat.pow_add, Nat.pow_add]
    rw [show lo + 2 ^ (64 * i) * (2 ^ 64 * 2 ^ d) * (v + 18446744073709551616 * hi) = lo + 2 ^ (64 * i) * (2 ^ 64 * (2 ^ d * (v + 18446744073709551616 * hi))) from by simp only [Nat.mul_assoc]]
    rw [Nat.add_mul_div_left _ _ (Nat.two_pow_pos _)]
    omega
  · split
    · rename_i h; subst h
      rw [Nat.add_mul_div_left _ _ (Nat.two_pow_pos _), Nat.div_eq_of_lt hlo]
      omega
    · rename_i h1 h2
      congr 1
      obtain ⟨d, hd⟩ : ∃ d, i = j + 1 + d := ⟨i - j - 1, by omega⟩
      subst hd
      rw [show j + 1 + d - j - 1 = d from by omega, show 64 * (j + 1 + d) = 64 * j + (64 + 64 * d) from by omega, Nat.pow_add, ← Nat.div_div_eq_div_mul, Nat.add_mul_div_left _ _ (Nat.two_pow_pos _), Nat.div_eq_of_lt hlo, Nat.pow_add, ← Nat.div_div_eq_div_mul]
      congr 2; omega

theorem split_at (O j : Nat) : O = O % 2 ^ (64 * j) + 2 ^ (64 * j) * (O / 2 ^ (64 * j) % 18446744073709551616 + 18446744073709551616 * (O / 2 ^ (64 * j) / 18446744073709551616)) := by
  have h1 := Nat.div_add_mod O (2 ^ (64 * j))
  have h2 := Nat.div_add_mod (O / 2 ^ (64 * j)) 18446744073709551616
  rw [Nat.add_comm (_ % 18446744073709551616), h2]; omega
theorem put_eq (O j v : Nat) : put O j v = O % 2 ^ (64 * j) + 2 ^ (64 * j) * (v + 18446744073709551616 * (O / 2 ^ (64 * j) / 18446744073709551616)) := by
  have h := split_at O j
  unfold put
  generalize O % 2 ^ (64 * j) = lo at h ⊢
  generalize hm : O / 2 ^ (64 * j) % 18446744073709551616 = mid at h ⊢
  generalize O / 2 ^ (64 * j) / 18446744073709551616 = hi at h ⊢
  rw [Nat.mul_add] at h ⊢
  rw [Nat.mul_comm mid, Nat.mul_comm v]; omega

theorem wcells_put (O c j v : Nat) (hv : v < 18446744073709551616) : (wcells O c).setIfInBounds j (.int .u64 (v : Int)) = wcells (put O j v) c := by
  apply Array.ext
  · simp [wcells]
  · intro i h1 h2
    rw [Array.getElem_setIfInBounds (by simpa using h1)]
    simp only [wcells, List.getElem_toArray, List.getElem_map, List.getElem_range]
    have hlo : O % 2 ^ (64 * j) < 2 ^ (64 * j) := Nat.mod_lt _ (Nat.two_pow_pos _)
    rw [put_eq, limb_split _ _ _ _ _ hlo hv]
    split
    · rename_i h; subst h; simp
    · rename_i h
      have := limb_split _ j (O / 2 ^ (64 * j) % 18446744073709551616) (O / 2 ^ (64 * j) / 18446744073709551616) i hlo (Nat.mod_lt _ (by omega))
      rw [← split_at O j] at this
      rw [this, if_neg (by omega : ¬ i = j), if_neg (by omega : ¬ i = j)]

/-- The sum of a number with word j set, by its old word. -/
theorem put_add (O j v : Nat) : put O j v + O / 2 ^ (64 * j) % 18446744073709551616 * 2 ^ (64 * j) = O + v * 2 ^ (64 * j) := by
  have h := split_at O j
  rw [put_eq]
  generalize O % 2 ^ (64 * j) = lo at h ⊢
  generalize O / 2 ^ (64 * j) / 18446744073709551616 = hi at h ⊢
  generalize O / 2 ^ (64 * j) % 18446744073709551616 = mid at h ⊢
  rw [Nat.mul_add] at h ⊢
  rw [Nat.mul_comm v, Nat.mul_comm mid]; omega

/-- The number of a string's bytes; the scalar of a number. -/
def num (s : ByteArray) : Nat := leNat s.data.toList
theorem num_lt (s : ByteArray) (c : Nat) (h : s.size ≤ 8 * c) : num s < 2 ^ (64 * c) := by
  have e : 2 ^ (64 * c) = 256 ^ (8 * c) := by rw [show (256 : Nat) = 2 ^ 8 from rfl, ← Nat.pow_mul]; congr 1; omega
  rw [e]
  exact Nat.lt_of_lt_of_le (leNat_lt _) (Nat.pow_le_pow_right (by omega) (by simpa using h))
theorem num_in (s : ByteArray) (c : Nat) (h : s.size ≤ 8 * c) : InWords (num s) c := num_lt s c h
def sc (n : Nat) : ByteArray := sbytes (n % ordL)

set_option maxHeartbeats 400000 in
theorem reduce_any (s : ByteArray) (w : World) :
    Calls Try.prog 10 #[.string s] w fun e w' => e = .returned (if s.size ≤ 64 then .tuple #[.string (sc (num s)), .int .i64 0] else .tuple #[.string ⟨#[]⟩, .int .i64 50]) ∧ Below w.heap.size w w' := by
  by_cases h : s.size ≤ 64
  · rw [if_pos h]
    go_enter Try.func10, Try.ntmps10
    go_wp2_with fail
    refine (words_any s h _).mono ?_
    rintro e w1 ⟨b, hb, rfl, hrow, hb1⟩
    go_wp2_with fail
    refine (mod_any (num s) 8 b _ (by omega) (num_in s 8 (by omega)) hrow).mono ?_
    rintro e w2 ⟨rfl, hb2⟩
    go_wp2_with fail
    refine (bytes_any _ _).mono ?_
    rintro e w3 ⟨rfl, hb3⟩
    go_wp2
    go_ret2
    exact ⟨rfl, hb1.trans ((hb2.mono hb1.size).trans (hb3.mono (Nat.le_trans hb1.size hb2.size)))⟩
  · rw [if_neg h]
    go_enter Try.func10, Try.ntmps10
    go_wp2
    go_ret2
    exact ⟨rfl, Below.refl _ _⟩

theorem sbytes_toList (n : Nat) : (sbytes n).toList = leList 32 n := by rw [ByteArray.toList_eq]; rfl
theorem num_sbytes (n : Nat) : num (sbytes n) = n % 256 ^ 32 := leNat_leList 32 n
theorem sbytes_size (n : Nat) : (sbytes n).size = 32 := leList_length 32 n
theorem bytes_ext {a b : ByteArray} (h : a.data.toList = b.data.toList) : a = b := by
  cases a; cases b; simpa using Array.toList_inj.1 h
theorem bytes_inj {a b : ByteArray} (hs : a.size = b.size) (h : num a = num b) : a = b :=
  bytes_ext (leNat_inj _ _ (by simpa using hs) h)
theorem beq_toList (a b : ByteArray) : (a.toList == b.toList) = decide (a = b) := by
  rw [ByteArray.toList_eq, ByteArray.toList_eq, Bool.eq_iff_iff, beq_iff_eq, decide_eq_true_iff]
  exact ⟨bytes_ext, fun h => by rw [h]⟩
theorem sbytes_num {s : ByteArray} (h : s.size = 32) : sbytes (num s) = s :=
  bytes_inj (by rw [sbytes_size, h]) (by rw [num_sbytes]; exact Nat.mod_eq_of_lt (by have := num_lt s 4 (by omega); omega))
theorem ordL_lt : ordL < 256 ^ 32 := by unfold ordL; omega
theorem ordL_pos : 0 < ordL := by unfold ordL; omega
theorem num_sc (n : Nat) : num (sc n) = n % ordL := by
  rw [sc, num_sbytes]; exact Nat.mod_eq_of_lt (Nat.lt_trans (Nat.mod_lt _ ordL_pos) ordL_lt)
theorem sc_size (n : Nat) : (sc n).size = 32 := sbytes_size _
theorem sc_congr {a b : Nat} (h : a % ordL = b % ordL) : sc a = sc b := by rw [sc, sc, h]
theorem sc_num {s : ByteArray} (h : s.size = 32) : sc (num s) = s ↔ num s < ordL := by
  constructor
  · intro e; rw [← e, num_sc]; exact Nat.mod_lt _ ordL_pos
  · intro e; rw [sc, Nat.mod_eq_of_lt e, sbytes_num h]

set_option maxHeartbeats 400000 in
theorem is_any (s : ByteArray) (w : World) :
    Calls Try.prog 13 #[.string s] w fun e w' => e = .returned (.bool (decide (s.size = 32 ∧ num s < ordL))) ∧ Below w.heap.size w w' := by
  by_cases h : s.size = 32
  · have h' : ((s.size : Int) == 32) = true := by rw [beq_iff_eq]; omega
    have H := Box.mk h; clear h
    go_enter Try.func13, Try.ntmps13
    go_wp2_with fail
    refine (words_any s (by have := H.out; omega) _).mono ?_
    rintro e w1 ⟨b, hb, rfl, hrow, hb1⟩
    go_wp2_with fail
    refine (mod_any (num s) 8 b _ (by omega) (num_in s 8 (by have := H.out; omega)) hrow).mono ?_
    rintro e w2 ⟨rfl, hb2⟩
    go_wp2_with fail
    refine (bytes_any _ _).mono ?_
    rintro e w3 ⟨rfl, hb3⟩
    go_wp2
    go_ret
    refine ⟨?_, hb1.trans ((hb2.mono hb1.size).trans (hb3.mono (Nat.le_trans hb1.size hb2.size)))⟩
    show Ending.returned (Value.bool ((sc (num s)).toList == s.toList)) = _
    rw [beq_toList]
    simp only [sc_num H.out, H.out, true_and]
  · have h' : ((s.size : Int) == 32) = false := by rw [beq_eq_false_iff_ne]; omega
    have H := Box.mk h; clear h
    go_enter Try.func13, Try.ntmps13
    go_wp2
    go_ret
    refine ⟨?_, Below.refl _ _⟩
    rw [decide_eq_false (fun h => H.out h.1)]; rfl

theorem mul64_any (x y : Nat) (hx : x < 18446744073709551616) (hy : y < 18446744073709551616) (w : World) :
    Calls Try.prog 29 #[.int .u64 x, .int .u64 y] w fun e w' => e = .returned (.tuple #[.int .u64 ((x * y / 18446744073709551616 : Nat) : Int), .int .u64 ((x * y % 18446744073709551616 : Nat) : Int)]) ∧ w' = w := by
  obtain ⟨bd, bt, bw, hhi⟩ := Lib.mul64_hi x y hx hy
  have ba := Lib.half_mul_le (a := x / 4294967296) (b := y / 4294967296) (by omega) (by omega)
  have bb := Lib.half_mul_le (a := x / 4294967296) (b := y % 4294967296) (by omega) (by omega)
  have bc := Lib.half_mul_le (a := x % 4294967296) (b := y / 4294967296) (by omega) (by omega)
  have b1 : x / 4294967296 * (y / 4294967296) < 18446744073709551616 := by omega
  have b2 : x / 4294967296 * (y % 4294967296) < 18446744073709551616 := by omega
  have b3 : x % 4294967296 * (y / 4294967296) < 18446744073709551616 := by omega
  have b4 : x / 4294967296 * (y / 4294967296) + (x / 4294967296 * (y % 4294967296) + x % 4294967296 * (y % 4294967296) / 4294967296) / 4294967296 < 18446744073709551616 := by omega
  have b5 : x / 4294967296 * (y / 4294967296) + (x / 4294967296 * (y % 4294967296) + x % 4294967296 * (y % 4294967296) / 4294967296) / 4294967296 + ((x / 4294967296 * (y % 4294967296) + x % 4294967296 * (y % 4294967296) / 4294967296) % 4294967296 + x % 4294967296 * (y / 4294967296)) / 4294967296 < 18446744073709551616 := by omega
  go_enter Try.func29, Try.ntmps29
  go_wp2
  simp only [Mul64.maskN x hx, Mul64.maskN y hy, Mul64.divN, Mul64.mulN, Mul64.addN, Mul64.wrapN _ bd, Mul64.wrapN _ b2, Mul64.wrapN _ bt, Mul64.maskN _ bt, Mul64.wrapN _ b3, Mul64.wrapN _ bw, Mul64.wrapN _ b1, Mul64.wrapN _ b4, Mul64.wrapN _ b5, Mul64.wrapM (x * y)]
  rw [hhi]
  go_ret2
  exact ⟨rfl, rfl⟩
end Go.Proofs.Ytilehlgnkfjcpaa
