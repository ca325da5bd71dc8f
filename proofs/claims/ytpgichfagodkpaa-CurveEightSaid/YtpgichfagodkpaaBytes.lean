/- Strings of 32 bytes as numbers. Nothing of the program. -/
import Derived.Test.YtpgichfagodkpaaWords
namespace Go.Proofs.Ytpgichfagodkpaa.Fe
set_option linter.unusedVariables false
open Go Go.RowKit

theorem num_sbytes (n : Nat) : num (sbytes n) = n % 256 ^ 32 := leNat_leList 32 n
theorem sbytes_size (n : Nat) : (sbytes n).size = 32 := leList_length 32 n
theorem bytes_ext {a b : ByteArray} (h : a.data.toList = b.data.toList) : a = b := by
  cases a; cases b; simpa using Array.toList_inj.1 h
theorem bytes_inj {a b : ByteArray} (hs : a.size = b.size) (h : num a = num b) : a = b :=
  bytes_ext (leNat_inj _ _ (by simpa using hs) h)
theorem num_lt32 {s : ByteArray} (h : s.size = 32) : num s < 256 ^ 32 := by
  have := leNat_lt s.data.toList
  rwa [show s.data.toList.length = 32 from by rw [← h]; simp] at this
theorem sbytes_num {s : ByteArray} (h : s.size = 32) : sbytes (num s) = s :=
  bytes_inj (by rw [sbytes_size, h]) (by rw [num_sbytes]; exact Nat.mod_eq_of_lt (num_lt32 h))
theorem sbytes_inj {x y : Nat} (hx : x < 256 ^ 32) (hy : y < 256 ^ 32) (h : sbytes x = sbytes y) : x = y := by
  have e := congrArg num h
  rwa [num_sbytes, num_sbytes, Nat.mod_eq_of_lt hx, Nat.mod_eq_of_lt hy] at e
theorem beq_toList (a b : ByteArray) : (a.toList == b.toList) = decide (a = b) := by
  rw [ByteArray.toList_eq, ByteArray.toList_eq, Bool.eq_iff_iff, beq_iff_eq, decide_eq_true_iff]
  exact ⟨bytes_ext, fun h => by rw [h]⟩
theorem seq_yes (s : ByteArray) : (s.toList == s.toList) = true := by simp
theorem seq_no {s t : ByteArray} (h : s ≠ t) : (s.toList == t.toList) = false := by rw [beq_toList, decide_eq_false h]
end Go.Proofs.Ytpgichfagodkpaa.Fe
