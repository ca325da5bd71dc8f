/- SHA-2: a block's words read; words' bytes. -/
import Derived.Test.YtjednaendedpdaaGreatM16
import Derived.ShutString
namespace Go.Proofs.YtjednaendedpdaaGreat
set_option maxRecDepth 100000
set_option linter.unusedVariables false
open Go Go.RowKit Sha

theorem Sha.be_snoc (l : List UInt8) (b : UInt8) : be (l ++ [b]) = 256 * be l + b.toNat := by simp [be, List.foldl_append]
theorem Sha.be_rev_lt (l : List UInt8) : be l.reverse < 256 ^ l.length := by
  induction l with
  | nil => simp [be]
  | cons b l ih =>
    rw [List.reverse_cons, be_snoc, List.length_cons, Nat.pow_succ]
    have := b.toNat_lt
    omega
theorem Sha.be_lt (l : List UInt8) : be l < 256 ^ l.length := by
  have := be_rev_lt l.reverse
  rwa [List.reverse_reverse, List.length_reverse] at this
theorem Sha.wordsOf_snoc (n : Nat) : ∀ t l, wordsOf n (t + 1) l = wordsOf n t l ++ [be ((l.drop (n * t)).take n)]
  | 0, l => by simp [wordsOf]
  | t + 1, l => by
    rw [wordsOf, wordsOf_snoc n t (l.drop n), wordsOf, List.drop_drop, List.cons_append, show n + n * t = n * (t + 1) from by rw [Nat.mul_add, Nat.mul_one]; omega]
theorem Sha.wordsOf_len (n : Nat) : ∀ t l, (wordsOf n t l).length = t
  | 0, l => rfl
  | t + 1, l => by rw [wordsOf, List.length_cons, wordsOf_len n t]
theorem Sha.wordsOf_lt (n : Nat) : ∀ t l, ∀ x ∈ wordsOf n t l, x < 256 ^ n
  | 0, l, x, h => by cases h
  | t + 1, l, x, h => by
    rcases List.mem_cons.1 h with h | h
    · subst h
      exact Nat.lt_of_lt_of_le (be_lt _) (Nat.pow_le_pow_right (by omega) (by rw [List.length_take]; omega))
    · exact wordsOf_lt n t _ x h
theorem Sha.be_step (s : ByteArray) (b p k : Nat) (hp : p = b + k) (h : p < s.size) : be ((s.data.toList.drop b).take (k + 1)) = 256 * be ((s.data.toList.drop b).take k) + s[p].toNat := by
  have hl : k < (s.data.toList.drop b).length := by
    rw [List.length_drop]
    have : s.data.toList.length = s.size := by simp
    omega
  rw [List.take_succ_eq_append_getElem hl, be_snoc]
  congr 1
  subst hp
  simp
  rfl
theorem Sha.bytesOf_len (x : Nat) : ∀ n, (bytesOf x n).length = n
  | 0 => rfl
  | n + 1 => by rw [bytesOf, List.length_cons, bytesOf_len x n]
theorem Sha.bytesOf_step (x : Nat) : ∀ n j, j < n → (bytesOf x n).take (j + 1) = (bytesOf x n).take j ++ [UInt8.ofNat (x / 256 ^ (n - 1 - j))]
  | n + 1, 0, _ => by simp [bytesOf]
  | n + 1, j + 1, h => by
    rw [bytesOf, List.take_succ_cons, List.take_succ_cons, bytesOf_step x n j (by omega), List.cons_append, show n - 1 - j = n + 1 - 1 - (j + 1) from by omega]
theorem shift_byte (x c m : Nat) (h : c = 8 * m) : Value.int .u8 ((x : Int) / 2 ^ c % 256) = byv (UInt8.ofNat (x / 256 ^ m)) := by
  subst h
  unfold byv
  have e : (2 : Int) ^ (8 * m) = ((256 ^ m : Nat) : Int) := by rw [show (256 : Nat) = 2 ^ 8 from rfl, ← Nat.pow_mul]; simp
  rw [UInt8.toNat_ofNat', e]
  exact int_congr (by simp)

theorem shl_or32 (x b : Nat) (hx : x * 256 < 4294967296) (hb : b < 256) : bits .or .u32 ((x : Int) * 256) ((b : Int) % 4294967296) = ((256 * x + b : Nat) : Int) := by
  have e : (x : Int) * 256 = ((x * 256 : Nat) : Int) := by omega
  have e2 : ((b : Int) % 4294967296) = (b : Int) := by omega
  rw [e, e2, u32_or_nat _ _ hx (by omega), nat_join 8 _ b (by omega) (by omega)]
  omega
theorem shl_or64 (x b : Nat) (hx : x * 256 < 18446744073709551616) (hb : b < 256) : bits .or .u64 ((x : Int) * 256) (IntKind.u64.wrap (b : Int)) = ((256 * x + b : Nat) : Int) := by
  have e : (x : Int) * 256 = ((x * 256 : Nat) : Int) := by omega
  have e2 : (IntKind.u64.wrap (b : Int)) = (b : Int) := by rw [IntKind.wrap_u64]; omega
  rw [e, e2, u64_or_nat _ _ hx (by omega), nat_join 8 _ b (by omega) (by omega)]
  omega
end Go.Proofs.YtjednaendedpdaaGreat
