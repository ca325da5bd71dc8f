/- SHA-2: blocks of words of 64 bits. SHA-2: the state of a sum that goes on; New, Write, Sum: words of 64 bits. SHA-2: the state of a sum that goes on; New, Write, Sum: words of 64 bits. SHA-2: the program's hashes, for both kinds, by the bytes that they have; One. Images in slots: End, Check. The slots' laws: an image of whole blocks, the part of a flash but its first block. -/
import Derived.Test.YtjednaendedpdaaGreatM21
import Derived.Test.YtjednaendedpdaaGreatM20
import Derived.Deep.RegionWith
import Derived.Test.YtjednaendedpdaaGreatM05
import Derived.Test.YtjednaendedpdaaGreatM15
import Derived.Test.YtjednaendedpdaaGreatM08
import Derived.Test.YtjednaendedpdaaGreatM09
namespace Go.Proofs.YtjednaendedpdaaGreat
set_option maxRecDepth 100000
set_option linter.unusedVariables false
open Go Go.RowKit Sha

theorem ks512 : (K.take 80).map (· / 2 ^ 0) = k512.ks := by simp [k512]; rfl
theorem ks512_len : (K.take 80).length = 80 := by decide
end Go.Proofs.YtjednaendedpdaaGreat
namespace Go.Proofs.YtjednaendedpdaaGreat
set_option maxRecDepth 100000
set_option linter.unusedVariables false
open Go Go.RowKit Sha

theorem k512_ok : k512.h.Ok 64 := ⟨by decide, by decide, by decide, by decide, by decide, by decide, by decide, by decide⟩
end Go.Proofs.YtjednaendedpdaaGreat
namespace Go.Proofs.YtjednaendedpdaaGreat
set_option maxRecDepth 100000
set_option linter.unusedVariables false
open Go Go.RowKit Sha

theorem pad_zeros64 (n r : Nat) (h : r = n % 128) : zeros 128 n < 128 ∧ (r + 1 + zeros 128 n) % 128 = 112 ∧ ∀ j, j < zeros 128 n → (r + 1 + j) % 128 ≠ 112 := by
  subst h
  unfold zeros
  refine ⟨by omega, by omega, fun j hj => by omega⟩
theorem pad64_eq (n : Nat) (hn : n ≤ 1000000) : padB 128 n = (128 : UInt8) :: (List.replicate (zeros 128 n + 8) 0 ++ bytesOf (8 * n) 8) := by
  unfold padB
  rw [bytes16 _ (by omega), ← List.append_assoc, List.replicate_append_replicate]
theorem ask64_eq (st : St) : k512.ask st = (blks 128 k512.step st.v (st.r ++ padB 128 st.n)).1.list.flatMap fun x => bytesOf x 8 := rfl
end Go.Proofs.YtjednaendedpdaaGreat
namespace Go.Proofs.YtjednaendedpdaaGreat
set_option maxRecDepth 100000
set_option linter.unusedVariables false
open Go Go.RowKit Sha

def kd (k : Int) : Sha.Kd := if k = 0 then k256 else k512
theorem kd_B (k : Int) : 0 < (kd k).B := by unfold kd; split <;> decide
def Kind (k : Int) : Prop := k = 0 ∨ k = 1
/-- The sum of bytes. -/
def sumS (k : Int) (l : List UInt8) : ByteArray := ⟨((kd k).sum l).toArray⟩
theorem sumS_size (k : Int) (l : List UInt8) (hk : Kind k) : ((sumS k l).size : Int) = 32 + 32 * k := by
  have e : (sumS k l).size = ((kd k).sum l).length := by rw [← size_list]; rfl
  have h : ∀ (n : Nat) (v : V8), (v.list.flatMap fun x => bytesOf x n).length = 8 * n := by
    intro n v
    simp only [V8.list, List.flatMap_cons, List.flatMap_nil, List.length_append, bytesOf_len, List.length_nil]
    omega
  rw [e]
  unfold Sha.Kd.sum
  rw [h]
  rcases hk with rfl | rfl
  · decide
  · decide
end Go.Proofs.YtjednaendedpdaaGreat
namespace Go.Proofs.YtjednaendedpdaaGreat
set_option maxRecDepth 100000
set_option linter.unusedVariables false
open Go Go.RowKit Sha

/-- Check. -/
def scheckV (s : FS) (F B : Int) (n : Int) (sum : ByteArray) : Int :=
  if (sreadV s F B n).2 ≠ 0 then (sreadV s F B n).2 else if (sumS 0 (sreadV s F B n).1.data.toList).toList = sum.toList then 0 else 242
theorem sread_size {s : FS} (hok : s.Ok) (F B n : Int) : (sreadV s F B n).1.size ≤ 131072 := by
  have h1 := hok.len; have h2 := hok.few
  unfold sreadV
  split
  · unfold preadV
    split
    · split
      · show (0 : Nat) ≤ _; omega
      · show ((s.b.drop _).take _).toArray.size ≤ _
        rw [List.size_toArray, List.length_take, List.length_drop]; omega
    · show (0 : Nat) ≤ _; omega
  · show (0 : Nat) ≤ _; omega
end Go.Proofs.YtjednaendedpdaaGreat
namespace Go.Proofs.YtjednaendedpdaaGreat
set_option maxRecDepth 100000
set_option linter.unusedVariables false
open Go Go.RowKit

theorem zeros_at (m g : Nat) (W : World) (h : W.heap[g]? = some (.cells (Array.replicate m (.int .u8 0)) 5 (0, 0))) : (convert 22 9 (.slice (some ⟨g, 0, none⟩) m m)).run Tryz.prog W = .ok (.string ⟨(List.replicate m 0).toArray⟩) W :=
  run_bytes_at Tryz.prog W g 0 m (List.replicate m 0) 22 9 5 m (by simp) Tryz.underlying22 Tryz.underlying5 Tryz.underlying9 (fun j u hu => by
    rw [List.getElem?_replicate] at hu
    split at hu
    · rename_i hj
      cases hu
      rw [cell_of_row _ _ _ _ _ _ h, Array.getElem?_replicate, if_pos (by omega)]; rfl
    · cases hu)
/-- The image of whole blocks. -/
def blkS (s : ByteArray) : List UInt8 := s.data.toList.take 3072 ++ List.replicate (512 - (min s.size 3072) % 512) 0
theorem blkS_len (s : ByteArray) : (blkS s).length % 512 = 0 ∧ 512 ≤ (blkS s).length ∧ (blkS s).length ≤ 3584 := by
  have h : s.data.toList.length = s.size := by simp
  unfold blkS
  rw [List.length_append, List.length_take, List.length_replicate, h]
  omega
end Go.Proofs.YtjednaendedpdaaGreat
