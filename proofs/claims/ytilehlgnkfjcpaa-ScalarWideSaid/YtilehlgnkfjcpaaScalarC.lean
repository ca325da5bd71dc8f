/- The scalar package: bytes of a number. -/
import Derived.Test.YtilehlgnkfjcpaaScalarB
namespace Go.Proofs.Ytilehlgnkfjcpaa
open Go Go.RowKit

/-- k bytes of a number, the lowest first. -/
def leList : Nat → Nat → List UInt8
  | 0, _ => []
  | k + 1, n => UInt8.ofNat (n % 256) :: leList k (n / 256)
theorem leList_length (k n : Nat) : (leList k n).length = k := by
  induction k generalizing n with
  | zero => rfl
  | succ k ih => simp [leList, ih]
theorem leNat_leList (k n : Nat) : leNat (leList k n) = n % 256 ^ k := by
  induction k generalizing n with
  | zero => simp [leList, leNat, Nat.mod_one]
  | succ k ih =>
    simp only [leList, leNat, ih]
    rw [Nat.pow_succ, Nat.mul_comm (256 ^ k) 256, Nat.mod_mul]
    simp
theorem leList_get (k n i : Nat) (h : i < k) : (leList k n)[i]? = some (UInt8.ofNat (n / 256 ^ i % 256)) := by
  induction k generalizing n i with
  | zero => omega
  | succ k ih =>
    cases i with
    | zero => simp [leList]
    | succ i => simp only [leList, List.getElem?_cons_succ]; rw [ih _ _ (by omega), Nat.div_div_eq_div_mul, Nat.pow_succ, Nat.mul_comm 256]
theorem leNat_inj : ∀ (l r : List UInt8), l.length = r.length → leNat l = leNat r → l = r
  | [], [], _, _ => rfl
  | [], _ :: _, h, _ => by simp at h
  | _ :: _, [], h, _ => by simp at h
  | a :: l, b :: r, h, e => by
    have ha := a.toNat_lt; have hb := b.toNat_lt
    simp only [leNat] at e
    have h1 : a.toNat = b.toNat := by omega
    have h2 : leNat l = leNat r := by omega
    rw [UInt8.toNat_inj.1 h1, leNat_inj l r (by simpa using h) h2]

/-- Bytes that are written so far. -/
def bcells (n k c : Nat) : Array Value := ((List.range c).map fun i => Value.int .u8 ((if i < k then n / 256 ^ i % 256 else 0 : Nat) : Int)).toArray
theorem bcells_step (n k c : Nat) : (bcells n k c).setIfInBounds k (.int .u8 ((n / 256 ^ k % 256 : Nat) : Int)) = bcells n (k + 1) c := by
  apply Array.ext
  · simp [bcells]
  · intro i h1 h2
    rw [Array.getElem_setIfInBounds (by simpa using h1)]
    simp only [bcells, List.getElem_toArray, List.getElem_map, List.getElem_range]
    split
    · rename_i h; subst h; simp
    · rename_i h
      by_cases hi : i < k
      · rw [if_pos hi, if_pos (by omega)]
      · rw [if_neg hi, if_neg (by omega)]
theorem bcells_all (n c : Nat) : bcells n c c = ((leList c n).map fun u => Value.int .u8 (u.toNat : Int)).toArray := by
  apply Array.ext'
  apply List.ext_getElem?
  intro i
  by_cases h : i < c
  · simp [bcells, h, leList_get c n i h]
  · simp [bcells, h, leList_length]

theorem byte_of (n k : Nat) : limb n (k / 8) / 2 ^ (8 * (k % 8)) % 256 = ((n / 256 ^ k % 256 : Nat) : Int) := by
  have e : (256 : Nat) ^ k = 2 ^ (64 * (k / 8)) * 2 ^ (8 * (k % 8)) := by
    rw [← Nat.pow_add, show (256 : Nat) = 2 ^ 8 from rfl, ← Nat.pow_mul]; congr 1; omega
  have hr : k % 8 < 8 := by omega
  rw [e, ← Nat.div_div_eq_div_mul]
  unfold limb
  rw [show ((2 : Int) ^ (8 * (k % 8))) = ((2 ^ (8 * (k % 8)) : Nat) : Int) from by simp, ← Int.natCast_ediv]
  generalize n / 2 ^ (64 * (k / 8)) = x
  generalize k % 8 = r at hr
  rcases (by omega : r = 0 ∨ r = 1 ∨ r = 2 ∨ r = 3 ∨ r = 4 ∨ r = 5 ∨ r = 6 ∨ r = 7) with rfl | rfl | rfl | rfl | rfl | rfl | rfl | rfl <;> simp <;> omega

theorem limbs_wcells (n : Nat) : limbs n = .agg (wcells n 4) := by simp [limbs, wcells, List.range, List.range.loop]

/-- The bytes of a scalar. -/
def sbytes (n : Nat) : ByteArray := ⟨(leList 32 n).toArray⟩

set_option maxHeartbeats 400000 in
theorem bytes_any (n : Nat) (w : World) :
    Calls Try.prog 25 #[limbs n] w fun e w' => e = .returned (.string (sbytes n)) ∧ Below w.heap.size w w' := by
  have hmk : ∀ w, (Instr.makeSlice 31 (.int .i64 32) (.int .i64 32)).run Try.prog w = .ok (.slice (some ⟨w.heap.size, 0, none⟩) 32 32) (w.alloc (.cells (bcells 0 0 32) 5)) := fun _ => by kernel_rfl
  unfold limbs
  go_enter Try.func25, Try.ntmps25
  go_wp2
  go_loopw [8] (fun i wr => ∃ k : Nat, k ≤ 32 ∧ i = .int .i64 k ∧ wr.heap[w.heap.size]? = some (.cells (wcells n 4) 41 (0, 0)) ∧ wr.heap[w.heap.size + 1]? = some (.cells (bcells n k 32) 5 (0, 0)) ∧ Below w.heap.size w wr) (fun i _ => 32 - (intOf i).toNat)
  case atStart =>
    refine ⟨0, Nat.zero_le _, rfl, ?_, ?_, by go_grown⟩
    · rw [heap_alloc_old _ _ (by simp), heap_alloc_new]; simp [wcells, List.range, List.range.loop]
    · rw [show w.heap.size + 1 = (w.alloc (.cells #[.int .u64 (limb n 0), .int .u64 (limb n 1), .int .u64 (limb n 2), .int .u64 (limb n 3)] 41)).heap.size from by simp, heap_alloc_new]
      simp [bcells]
  case round =>
    obtain ⟨k, hk, rfl, hrow, hrow2, hbel⟩ := hrel
    by_cases hlt : k < 32
    · have hc : wr.cell? ⟨w.heap.size, k / 8, none⟩ = some (.int .u64 (limb n (k / 8))) := by
        rw [cell_of_row _ _ _ _ _ _ hrow]; exact wcells_get _ _ _ (by omega)
      have hc2 : wr.cell? ⟨w.heap.size + 1, k, none⟩ = some (.int .u8 ((if k < k then n / 256 ^ k % 256 else 0 : Nat) : Int)) := by
        rw [cell_of_row _ _ _ _ _ _ hrow2]; simp [bcells, hlt]
      have hf : wr.frozen? ⟨w.heap.size + 1, k, none⟩ = false := frozen_of_row _ _ _ _ _ hrow2
      have hbd := limb_bd n (k / 8)
      have HR := Box.mk hrow; clear hrow
      have HR2 := Box.mk hrow2; clear hrow2
      have HB := Box.mk hbel; clear hbel
      have HX := Box.mk (byte_of n k)
      generalize limb n (k / 8) = x at hc hbd HX
      go_wp2
      go_roundw
      case rel =>
        refine ⟨k + 1, by omega, by go_num, ?_, ?_, HB.out.setCell (by simp) _⟩
        · rw [heap_setCell_other _ _ _ _ (by simp)]; exact HR.out
        · rw [heap_setCell_same _ _ _ _ _ _ HR2.out, HX.out, bcells_step]
      case measure => simp [intOf]; omega
    · have hk' : k = 32 := by omega
      subst hk'
      rw [bcells_all] at hrow2
      have hcv := run_bytes_of_row Try.prog wr (w.heap.size + 1) 32 _ _ 31 9 5 32 (leList_length _ _) Try.underlying31 Try.underlying5 Try.underlying9 hrow2
      clear hrow hrow2
      have HB := Box.mk hbel; clear hbel
      go_wp2
      go_returns
      exact ⟨rfl, HB.out⟩
end Go.Proofs.Ytilehlgnkfjcpaa
