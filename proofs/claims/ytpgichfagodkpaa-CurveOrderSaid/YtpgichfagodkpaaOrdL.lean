/- The order as a number; bytes modulo the order. Nothing of the program. -/
import Derived.Test.YtpgichfagodkpaaWords
namespace Go.Proofs.Ytpgichfagodkpaa
set_option linter.unusedVariables false
open Go Go.RowKit

@[irreducible] def ordL : Nat := 7237005577332262213973186563042994240857116359379907606001950938285454250989
theorem num_lt (s : ByteArray) (c : Nat) (h : s.size ≤ 8 * c) : num s < 2 ^ (64 * c) := by
  have e : 2 ^ (64 * c) = 256 ^ (8 * c) := by rw [show (256 : Nat) = 2 ^ 8 from rfl, ← Nat.pow_mul]; congr 1; omega
  rw [e]
  exact Nat.lt_of_lt_of_le (leNat_lt _) (Nat.pow_le_pow_right (by omega) (by simpa using h))
def sc (n : Nat) : ByteArray := sbytes (n % ordL)
theorem sbytes_toList (n : Nat) : (sbytes n).toList = leList 32 n := by rw [ByteArray.toList_eq]; rfl
theorem num_sbytes (n : Nat) : num (sbytes n) = n % 256 ^ 32 := leNat_leList 32 n
theorem sbytes_size (n : Nat) : (sbytes n).size = 32 := leList_length 32 n
theorem bytes_ext {a b : ByteArray} (h : a.data.toList = b.data.toList) : a = b := by
  cases a; cases b; simpa using Array.toList_inj.1 h
theorem bytes_inj {a b : ByteArray} (hs : a.size = b.size) (h : num a = num b) : a = b :=
  bytes_ext (leNat_inj _ _ (by simpa using hs) h)
theorem beq_toList (a b : ByteArray) : (a.toList == b.toList) = decide (a = b) := by
  rw [ByteArray.toList_eq, ByteArray.toList_eq, Bool.eq_iff_iff, beq_iff_eq, decide_eq_true_iff]
  exact ⟨bytes_ext, fun h => by rw [h]⟩
theorem sbytes_num {s : ByteArray} (h : s.size = 32) : sbytes (num s) = s :=
  bytes_inj (by rw [sbytes_size, h]) (by rw [num_sbytes]; exact Nat.mod_eq_of_lt (by have := num_lt s 4 (by omega); omega))
theorem ordL_lt : ordL < 256 ^ 32 := by unfold ordL; omega
theorem ordL_pos : 0 < ordL := by unfold ordL; omega
theorem num_sc (n : Nat) : num (sc n) = n % ordL := by
  rw [sc, num_sbytes]; exact Nat.mod_eq_of_lt (Nat.lt_trans (Nat.mod_lt _ ordL_pos) ordL_lt)
theorem sc_size (n : Nat) : (sc n).size = 32 := sbytes_size _
theorem sc_congr {a b : Nat} (h : a % ordL = b % ordL) : sc a = sc b := by rw [sc, sc, h]
theorem sc_num {s : ByteArray} (h : s.size = 32) : sc (num s) = s ↔ num s < ordL := by
  constructor
  · intro e; rw [← e, num_sc]; exact Nat.mod_lt _ ordL_pos
  · intro e; rw [sc, Nat.mod_eq_of_lt e, sbytes_num h]
end Go.Proofs.Ytpgichfagodkpaa
