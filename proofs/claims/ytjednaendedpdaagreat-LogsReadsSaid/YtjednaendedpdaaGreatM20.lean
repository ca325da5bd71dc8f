/- SHA-2: blocks of words of 32 bits. math/bits.Mul64: any two words. SHA-2: the state of a sum that goes on; New, Write, Sum: words of 32 bits. SHA-2: the state of a sum that goes on; New, Write, Sum: words of 32 bits. -/
import Derived.Test.YtjednaendedpdaaGreatM17
import Derived.Test.YtjednaendedpdaaGreatM19
import Derived.Deep.RegionWith
import Derived.Test.YtjednaendedpdaaGreatRows
import Derived.Test.YtjednaendedpdaaGreatM01
import Derived.Shelf.Bits.Mul64
import Derived.Test.YtjednaendedpdaaGreatM05
namespace Go.Proofs.YtjednaendedpdaaGreat
set_option maxRecDepth 100000
set_option linter.unusedVariables false
open Go Go.RowKit Sha

theorem Sha.run_one (B : Nat) (f : V8 → List UInt8 → V8) (m : Nat) (v : V8) (l : List UInt8) : run B f (m + 1) v l = (f (run B f m v l).1 ((run B f m v l).2.take B), (run B f m v l).2.drop B) := by
  rw [run_add]; rfl
theorem Sha.run_blks {B : Nat} (hB : 0 < B) (f : V8 → List UInt8 → V8) (m : Nat) (v : V8) (l : List UInt8) (h : m * B ≤ l.length) (h2 : (run B f m v l).2.length < B) : run B f m v l = blks B f v l := by
  rw [run_len _ _ _ _ _ h] at h2
  have : l.length / B = m := by
    rw [Nat.div_eq_iff hB]; omega
  unfold blks; rw [this]
theorem extract_take (s : ByteArray) (k : Nat) : (s.extract 0 k).data.toList = s.data.toList.take k := by simp [ByteArray.data_extract]
theorem extract_drop (s : ByteArray) (k n : Nat) (h : n = s.size) : (s.extract k n).data.toList = s.data.toList.drop k := by
  subst h
  simp only [ByteArray.data_extract, Array.toList_extract, List.extract_eq_take_drop]
  exact List.take_of_length_le (by simp)
theorem size_list (s : ByteArray) : s.data.toList.length = s.size := by simp
theorem plus_ok (W : Nat) (v u : V8) : (plus W v u).Ok W :=
  ⟨Nat.mod_lt _ (Nat.two_pow_pos _), Nat.mod_lt _ (Nat.two_pow_pos _), Nat.mod_lt _ (Nat.two_pow_pos _), Nat.mod_lt _ (Nat.two_pow_pos _), Nat.mod_lt _ (Nat.two_pow_pos _), Nat.mod_lt _ (Nat.two_pow_pos _), Nat.mod_lt _ (Nat.two_pow_pos _), Nat.mod_lt _ (Nat.two_pow_pos _)⟩
theorem K_lt : ∀ x ∈ K, x < 2 ^ 64 := by decide

theorem ks256 : (K.take 64).map (· / 2 ^ 32) = k256.ks := by rfl
theorem ks256_len : (K.take 64).length = 64 := by decide
end Go.Proofs.YtjednaendedpdaaGreat
namespace Go.Proofs.YtjednaendedpdaaGreat
set_option maxRecDepth 100000
set_option linter.unusedVariables false
open Go Go.RowKit

theorem mul64w_any (x y : Nat) (hx : x < 18446744073709551616) (hy : y < 18446744073709551616) (w : World) :
    Calls Tryz.prog 104 #[.int .u64 x, .int .u64 y] w fun e w' => e = .returned (.tuple #[.int .u64 ((x * y / 18446744073709551616 : Nat) : Int), .int .u64 ((x * y % 18446744073709551616 : Nat) : Int)]) ∧ w' = w := by
  obtain ⟨bd, bt, bw, hhi⟩ := Lib.mul64_hi x y hx hy
  have ba := Lib.half_mul_le (a := x / 4294967296) (b := y / 4294967296) (by omega) (by omega)
  have bb := Lib.half_mul_le (a := x / 4294967296) (b := y % 4294967296) (by omega) (by omega)
  have bc := Lib.half_mul_le (a := x % 4294967296) (b := y / 4294967296) (by omega) (by omega)
  have b1 : x / 4294967296 * (y / 4294967296) < 18446744073709551616 := by omega
  have b2 : x / 4294967296 * (y % 4294967296) < 18446744073709551616 := by omega
  have b3 : x % 4294967296 * (y / 4294967296) < 18446744073709551616 := by omega
  have b4 : x / 4294967296 * (y / 4294967296) + (x / 4294967296 * (y % 4294967296) + x % 4294967296 * (y % 4294967296) / 4294967296) / 4294967296 < 18446744073709551616 := by omega
  have b5 : x / 4294967296 * (y / 4294967296) + (x / 4294967296 * (y % 4294967296) + x % 4294967296 * (y % 4294967296) / 4294967296) / 4294967296 + ((x / 4294967296 * (y % 4294967296) + x % 4294967296 * (y % 4294967296) / 4294967296) % 4294967296 + x % 4294967296 * (y / 4294967296)) / 4294967296 < 18446744073709551616 := by omega
  go_enter Tryz.func104, Tryz.ntmps104
  go_wp2
  simp only [Mul64.maskN x hx, Mul64.maskN y hy, Mul64.divN, Mul64.mulN, Mul64.addN, Mul64.wrapN _ bd, Mul64.wrapN _ b2, Mul64.wrapN _ bt, Mul64.maskN _ bt, Mul64.wrapN _ b3, Mul64.wrapN _ bw, Mul64.wrapN _ b1, Mul64.wrapN _ b4, Mul64.wrapN _ b5, Mul64.wrapM (x * y)]
  rw [hhi]
  go_ret2
  exact ⟨rfl, rfl⟩
end Go.Proofs.YtjednaendedpdaaGreat
namespace Go.Proofs.YtjednaendedpdaaGreat
set_option maxRecDepth 100000
set_option linter.unusedVariables false
open Go Go.RowKit Sha

theorem mul8_any (x : Nat) (hx : x ≤ 1000000) (w : World) : Calls Tryz.prog 104 #[.int .u64 x, .int .u64 8] w fun e w' => e = .returned (.tuple #[.int .u64 0, .int .u64 ((8 * x : Nat) : Int)]) ∧ w = w' := by
  have h := mul64w_any x 8 (by omega) (by omega) w
  rw [show ((x * 8 / 18446744073709551616 : Nat) : Int) = 0 from by omega, show x * 8 % 18446744073709551616 = 8 * x from by omega] at h
  exact h.mono fun e w' ⟨a, b⟩ => ⟨a, b.symm⟩

/-- What the sum's row holds. -/
def rowS (st : St) (j m : Nat) : List UInt8 := st.r ++ (128 : UInt8) :: (List.replicate j 0 ++ (bytesOf (8 * st.n) 8).take m)
theorem rowS_step (st : St) (j m : Nat) (hm : m < 8) : rowS st j (m + 1) = rowS st j m ++ [UInt8.ofNat (8 * st.n / 256 ^ (8 - 1 - m))] := by
  unfold rowS; rw [bytesOf_step _ _ _ hm]; simp
theorem rowS_zero (st : St) (j : Nat) : rowS st (j + 1) 0 = rowS st j 0 ++ [0] := by
  unfold rowS; rw [List.replicate_succ']; simp
theorem bytes_split (x : Nat) : ∀ a b, x < 256 ^ b → bytesOf x (a + b) = List.replicate a 0 ++ bytesOf x b
  | 0, b, _ => by simp
  | a + 1, b, h => by
    rw [show a + 1 + b = a + b + 1 from by omega, bytesOf, bytes_split x a b h, List.replicate_succ, List.cons_append]
    congr 1
    rw [Nat.div_eq_of_lt (Nat.lt_of_lt_of_le h (Nat.pow_le_pow_right (by omega) (by omega)))]
    rfl
theorem bytes16 (x : Nat) (h : x < 256 ^ 8) : bytesOf x 16 = List.replicate 8 0 ++ bytesOf x 8 := bytes_split x 8 8 h

theorem k256_ok : k256.h.Ok 32 := ⟨by decide, by decide, by decide, by decide, by decide, by decide, by decide, by decide⟩
end Go.Proofs.YtjednaendedpdaaGreat
namespace Go.Proofs.YtjednaendedpdaaGreat
set_option maxRecDepth 100000
set_option linter.unusedVariables false
open Go Go.RowKit Sha

theorem pad_zeros32 (n r : Nat) (h : r = n % 64) : zeros 64 n < 64 ∧ (r + 1 + zeros 64 n) % 64 = 56 ∧ ∀ j, j < zeros 64 n → (r + 1 + j) % 64 ≠ 56 := by
  subst h
  unfold zeros
  refine ⟨by omega, by omega, fun j hj => by omega⟩
theorem pad32_eq (n : Nat) (hn : n ≤ 1000000) : padB 64 n = (128 : UInt8) :: (List.replicate (zeros 64 n + 0) 0 ++ bytesOf (8 * n) 8) := by
  unfold padB
  rfl
theorem ask32_eq (st : St) : k256.ask st = (blks 64 k256.step st.v (st.r ++ padB 64 st.n)).1.list.flatMap fun x => bytesOf x 4 := rfl
end Go.Proofs.YtjednaendedpdaaGreat
