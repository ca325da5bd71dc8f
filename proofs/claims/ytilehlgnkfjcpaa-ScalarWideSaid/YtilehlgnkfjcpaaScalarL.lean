/- The laws on scalars: what they call, by contracts in one form; fixed. -/
import Derived.Test.YtilehlgnkfjcpaaScalarH
import Derived.Test.YtilehlgnkfjcpaaScalarRefE
namespace Go.Proofs.Ytilehlgnkfjcpaa
open Go Go.RowKit

theorem bthen {w w1 w2 : World} (h : Below w.heap.size w w1) (k : Below w1.heap.size w1 w2) : Below w.heap.size w w2 := h.trans (k.mono h.size)

theorem reduce_ok (s : ByteArray) (h : s.size ≤ 64) (w : World) :
    Calls Try.prog 10 #[.string s] w fun e w' => ∃ t, Box (t = sc (num s)) ∧ e = .returned (.tuple #[.string t, .int .i64 0]) ∧ Below w.heap.size w w' :=
  (reduce_any s w).mono fun e w' ⟨he, hb⟩ => ⟨_, ⟨rfl⟩, by rw [he, if_pos h], hb⟩
theorem reduce_no (s : ByteArray) (h : 64 < s.size) (w : World) :
    Calls Try.prog 10 #[.string s] w fun e w' => e = .returned (.tuple #[.string ⟨#[]⟩, .int .i64 50]) ∧ Below w.heap.size w w' :=
  (reduce_any s w).mono fun e w' ⟨he, hb⟩ => ⟨by rw [he, if_neg (by omega)], hb⟩
theorem add_ok (a b : ByteArray) (ha : a.size = 32) (hb : b.size = 32) (w : World) :
    Calls Try.prog 15 #[.string a, .string b] w fun e w' => ∃ t, Box (t = sc (num a + num b)) ∧ e = .returned (.tuple #[.string t, .int .i64 0]) ∧ Below w.heap.size w w' :=
  (add_any a b w).mono fun e w' ⟨he, hb2⟩ => ⟨_, ⟨rfl⟩, by rw [he, if_pos ⟨ha, hb⟩], hb2⟩
theorem mul_ok (a b : ByteArray) (ha : a.size = 32) (hb : b.size = 32) (w : World) :
    Calls Try.prog 17 #[.string a, .string b] w fun e w' => ∃ t, Box (t = sc (num a * num b)) ∧ e = .returned (.tuple #[.string t, .int .i64 0]) ∧ Below w.heap.size w w' :=
  (mul_any a b w).mono fun e w' ⟨he, hb2⟩ => ⟨_, ⟨rfl⟩, by rw [he, if_pos ⟨ha, hb⟩], hb2⟩
theorem mul_no (a b : ByteArray) (h : ¬ (a.size = 32 ∧ b.size = 32)) (w : World) :
    Calls Try.prog 17 #[.string a, .string b] w fun e w' => e = .returned (.tuple #[.string ⟨#[]⟩, .int .i64 50]) ∧ Below w.heap.size w w' :=
  (mul_any a b w).mono fun e w' ⟨he, hb2⟩ => ⟨by rw [he, if_neg h], hb2⟩
theorem is_yes (s : ByteArray) (h : s.size = 32 ∧ num s < ordL) (w : World) :
    Calls Try.prog 13 #[.string s] w fun e w' => e = .returned (.bool true) ∧ Below w.heap.size w w' :=
  (is_any s w).mono fun e w' ⟨he, hb⟩ => ⟨by rw [he, decide_eq_true h], hb⟩
theorem is_no (s : ByteArray) (h : ¬ (s.size = 32 ∧ num s < ordL)) (w : World) :
    Calls Try.prog 13 #[.string s] w fun e w' => e = .returned (.bool false) ∧ Below w.heap.size w w' :=
  (is_any s w).mono fun e w' ⟨he, hb⟩ => ⟨by rw [he, decide_eq_false h], hb⟩

set_option maxHeartbeats 400000 in
theorem lnum_any (n : Int) (h : 0 ≤ n ∧ n < 256) (w : World) :
    Calls Try.prog 19 #[.int .u8 n] w fun e w' => ∃ t, Box (t = sc n.toNat) ∧ e = .returned (.string t) ∧ Below w.heap.size w w' := by
  obtain ⟨n, rfl⟩ := Int.eq_ofNat_of_zero_le h.1
  go_enter Try.func19, Try.ntmps19
  go_wp2_with fail
  have hd : DRow (w.alloc (.cells #[.int .i64 (n : Int)] 3)) w.heap.size 1 n := by
    refine DRow.of (t := 3) ?_
    rw [heap_alloc_new]
    congr 2
    simp [dcells, digit, List.range, List.range.loop]; omega
  refine (refMod_any n 1 w.heap.size 1 _ (by unfold In256; omega) (by omega) hd (by simp)).mono ?_
  rintro e w1 ⟨rfl, hb1⟩
  go_wp2
  go_ret
  exact ⟨_, ⟨rfl⟩, rfl, ((Below.refl _ _).alloc (Nat.le_refl _) _).trans (hb1.mono (by simp))⟩

theorem bcells_set0 (R v : Nat) {N' : Nat} (hv : v < 256) (hR : R / 256 * 256 + v = N') : (bcells R 32 32).setIfInBounds 0 (.int .u8 (v : Int)) = bcells N' 32 32 := by
  apply Array.ext
  · simp [bcells]
  · intro i h1 h2
    rw [Array.getElem_setIfInBounds (by simpa using h1)]
    have hi : i < 32 := by simpa [bcells] using h2
    simp only [bcells, List.getElem_toArray, List.getElem_map, List.getElem_range, if_pos hi]
    split
    · rename_i h; subst h; simp; omega
    · rename_i h
      obtain ⟨d, rfl⟩ : ∃ d, i = d + 1 := ⟨i - 1, by omega⟩
      rw [Nat.pow_succ, Nat.mul_comm, ← Nat.div_div_eq_div_mul, ← Nat.div_div_eq_div_mul, show N' / 256 = R / 256 from by omega]

set_option maxHeartbeats 1000000 in
theorem lorder_any (m : Int) (h : -237 ≤ m ∧ m ≤ 18) (w : World) :
    Calls Try.prog 20 #[.int .i64 m] w fun e w' => ∃ t, Box (t = sbytes (ordL + m).toNat) ∧ e = .returned (.string t) ∧ Below w.heap.size w w' := by
  have hmk2 : ∀ w, (Instr.makeSlice 31 (.int .i64 32) (.int .i64 32)).run Try.prog w = .ok (.slice (some ⟨w.heap.size, 0, none⟩) 32 32) (w.alloc (.cells (bcells 0 0 32) 5)) := fun _ => by kernel_rfl
  go_enter Try.func20, Try.ntmps20
  go_wp2_with fail
  refine (refL_any _).mono ?_
  rintro e w1 ⟨P, hP, rfl, hl, hb1⟩
  have hrow0 : w1.heap[w.heap.size]? = some (.cells (bcells ordL 0 32) 5 (0, 0)) := by
    rw [hb1.block _ (by simp), heap_alloc_new]; simp [bcells]
  have hbl : Below w.heap.size w w1 := ((Below.refl _ _).alloc (Nat.le_refl _) _).trans (hb1.mono (by simp))
  have HP := Box.mk hP
  have hPn : P ≠ w.heap.size := by simp at hP; omega
  have HL := Box.mk hl; clear hl
  have HR := Box.mk hrow0; clear hrow0
  have HBL := Box.mk hbl; clear hbl hb1 hP
  go_wp2_with fail
  go_loopw [5] (fun i wr => ∃ k : Nat, k ≤ 32 ∧ i = .int .i64 k ∧ wr.heap[w.heap.size]? = some (.cells (bcells ordL k 32) 5 (0, 0)) ∧ DRow wr P 32 ordL ∧ Below w.heap.size w wr) (fun i _ => 32 - (intOf i).toNat)
  case atStart => exact ⟨0, by omega, rfl, HR.out, HL.out, HBL.out⟩
  case round =>
    clear HR HL HBL
    obtain ⟨k, hk, rfl, hrow, hdr, hb3⟩ := hrel
    by_cases hlt : k < 32
    · have c1 := hdr k hlt
      have c2 : wr.cell? ⟨w.heap.size, k, none⟩ = some (.int .u8 ((if k < k then ordL / 256 ^ k % 256 else 0 : Nat) : Int)) := by
        rw [cell_of_row _ _ _ _ _ _ hrow]; simp [bcells, hlt]
      have f2 : wr.frozen? ⟨w.heap.size, k, none⟩ = false := frozen_of_row _ _ _ _ _ hrow
      have hbd := digit_bd ordL k
      have HROW := Box.mk hrow; clear hrow
      have HDR := Box.mk hdr; clear hdr
      have HB3 := Box.mk hb3; clear hb3
      have HDE := Box.mk (digit_eq ordL k)
      generalize digit ordL k = d at c1 hbd HDE
      go_wp2
      go_roundw
      case rel =>
        refine ⟨k + 1, by omega, by go_num, ?_, ?_, HB3.out.setCell (p := ⟨w.heap.size, k, none⟩) (Nat.le_refl _) _⟩
        · rw [heap_setCell_same _ _ _ _ _ _ HROW.out, HDE.out, bcells_step]
        · intro t ht
          have hw := HDR.out t ht
          rw [← hw]
          exact World.cell?_of_block (heap_setCell_other _ _ _ _ (by simpa using hPn))
      case measure => simp [intOf]; omega
    · have hk3 : k = 32 := by omega
      subst hk3
      have c0 : wr.cell? ⟨w.heap.size, 0, none⟩ = some (.int .u8 237) := by
        rw [cell_of_row _ _ _ _ _ _ hrow]; simp [bcells, ordL]
      have f0 : wr.frozen? ⟨w.heap.size, 0, none⟩ = false := frozen_of_row _ _ _ _ _ hrow
      have hset := heap_setCell_same _ _ 0 _ _ (.int .u8 (((237 + m).toNat : Nat) : Int)) hrow
      rw [bcells_set0 ordL (237 + m).toNat (N' := (ordL + m).toNat) (by omega) (by unfold ordL; omega), bcells_all] at hset
      rw [Int.toNat_of_nonneg (by omega)] at hset
      have hcv := run_bytes_of_row Try.prog _ w.heap.size 32 _ _ 31 9 5 32 (leList_length _ _) Try.underlying31 Try.underlying5 Try.underlying9 hset
      have HB3 := Box.mk hb3; clear hb3 hdr hset hrow
      go_wp2
      go_ret
      exact ⟨_, ⟨rfl⟩, rfl, HB3.out.setCell (p := ⟨w.heap.size, 0, none⟩) (Nat.le_refl _) _⟩
end Go.Proofs.Ytilehlgnkfjcpaa
