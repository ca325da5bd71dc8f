/- The document's answer on scalars: Add, Mul. -/
import Derived.Test.YtilehlgnkfjcpaaScalarRefM
namespace Go.Proofs.Ytilehlgnkfjcpaa
open Go Go.RowKit

theorem num_mod (s : ByteArray) (k : Nat) (hk : k ≤ s.size) : num s % 256 ^ k = leNat (s.data.toList.take k) := by
  have h : num s = leNat (s.data.toList.take k) + 256 ^ k * leNat (s.data.toList.drop k) := by
    have := leNat_append (s.data.toList.take k) (s.data.toList.drop k)
    rw [List.take_append_drop, List.length_take, Nat.min_eq_left (by simpa using hk)] at this
    exact this
  rw [h, Nat.add_mul_mod_self_left, Nat.mod_eq_of_lt (leNat_take_lt s k hk)]
theorem num_digit (s : ByteArray) (k : Nat) (hk : k < s.size) : num s / 2 ^ (8 * k) % 256 = s[k].toNat := by
  have h := byte_mod (num s) k
  rw [pow8, pow8, num_mod s (k + 1) hk, num_mod s k (Nat.le_of_lt hk), leNat_take_succ s k hk] at h
  rw [pow8]
  exact (Nat.eq_of_mul_eq_mul_left (Nat.pow_pos (by omega)) (by omega : 256 ^ k * s[k].toNat = 256 ^ k * (num s / 256 ^ k % 256))).symm

theorem add8 (S k y a b : Nat) (hS : S < 2 ^ (8 * (k + 1))) (hy : y = S / 2 ^ (8 * k) % 256 + a + b) :
    put8 (put8 S k (y % 256)) (k + 1) (y / 256) = S + 2 ^ (8 * k) * (a + b) := by
  have h1 := put8_add S k (y % 256)
  have h2 := put8_add (put8 S k (y % 256)) (k + 1) (y / 256)
  have h3 := put8_lt S k (y % 256) (k + 1) hS (by omega) (by omega)
  rw [Nat.div_eq_of_lt h3] at h2
  have e : y / 256 * 2 ^ (8 * (k + 1)) = y / 256 * 256 * 2 ^ (8 * k) := by
    rw [show 8 * (k + 1) = 8 + 8 * k from by omega, Nat.pow_add, Nat.mul_assoc]
  rw [e] at h2
  generalize put8 (put8 S k (y % 256)) (k + 1) (y / 256) = R at h2 ⊢
  generalize put8 S k (y % 256) = T at h1 h2
  generalize S / 2 ^ (8 * k) % 256 = d at h1 hy
  generalize 2 ^ (8 * k) = K at h1 h2 ⊢
  have h4 : (y % 256 + y / 256 * 256) * K = (d + a + b) * K := by congr 1; omega
  simp only [Nat.add_mul] at h4
  rw [Nat.mul_add, Nat.mul_comm K a, Nat.mul_comm K b]
  omega

structure RaSt (w : World) (a b : ByteArray) (k : Nat) (wr : World) : Prop where
  row : wr.heap[w.heap.size]? = some (.cells (dcells (num a % 256 ^ k + num b % 256 ^ k) 33) 3 (0, 0))
  below : Below w.heap.size w wr

theorem RaSt.step {w wr : World} {a b : ByteArray} {k : Nat} {n : Nat} (h : RaSt w a b k wr) (ha : k < a.size) (hb : k < b.size) (y : Int)
    (hy : y = digit (num a % 256 ^ k + num b % 256 ^ k) k + a[k].toNat + b[k].toNat) :
    RaSt w a b (k + 1) (((wr.drewN n).setCell ⟨w.heap.size, k, none⟩ (.int .i64 (y % 256))).setCell ⟨w.heap.size, k + 1, none⟩ (.int .i64 (y / 256))) := by
  have hd := digit_bd (num a % 256 ^ k + num b % 256 ^ k) k
  obtain ⟨y, rfl⟩ := Int.eq_ofNat_of_zero_le (by omega : 0 ≤ y)
  have hu := a[k].toNat_lt; have hv := b[k].toNat_lt
  refine ⟨?_, ((below_drewN h.below n).setCell (Nat.le_refl _) _).setCell (Nat.le_refl _) _⟩
  have hrow : (wr.drewN n).heap[w.heap.size]? = some (.cells (dcells (num a % 256 ^ k + num b % 256 ^ k) 33) 3 (0, 0)) := h.row
  rw [show ((y : Int) % 256) = ((y % 256 : Nat) : Int) from by omega, show ((y : Int) / 256) = ((y / 256 : Nat) : Int) from by omega]
  have h1 := heap_setCell_same _ _ k _ _ (.int .i64 ((y % 256 : Nat) : Int)) hrow
  rw [dcells_put _ _ _ _ (by omega)] at h1
  have h2 := heap_setCell_same _ _ (k + 1) _ _ (.int .i64 ((y / 256 : Nat) : Int)) h1
  rw [dcells_put _ _ _ _ (by omega)] at h2
  rw [h2]
  have hlt : num a % 256 ^ k + num b % 256 ^ k < 2 ^ (8 * (k + 1)) := by
    rw [pow8, Nat.pow_succ]
    have := Nat.mod_lt (num a) (Nat.pow_pos (n := k) (by omega : 0 < 256)); have := Nat.mod_lt (num b) (Nat.pow_pos (n := k) (by omega : 0 < 256)); omega
  rw [add8 _ k y a[k].toNat b[k].toNat hlt (by rw [dig8_eq] at hy; unfold dig8 at hy; omega)]
  congr 2
  rw [← num_digit a k ha, ← num_digit b k hb, pow8]
  rw [digit_mod, digit_mod, Nat.mul_add]
  congr 1; omega

set_option maxRecDepth 100000 in
set_option maxHeartbeats 1000000 in
theorem refAdd_any (a b : ByteArray) (w : World) :
    Calls Try.prog 16 #[.string a, .string b] w fun e w' => e = .returned (if a.size = 32 ∧ b.size = 32 then .tuple #[.string (sc (num a + num b)), .int .i64 0] else .tuple #[.string ⟨#[]⟩, .int .i64 50]) ∧ Below w.heap.size w w' := by
  by_cases ha : a.size = 32
  · by_cases hb : b.size = 32
    · rw [if_pos ⟨ha, hb⟩]
      have ha' : ((a.size : Int) != 32) = false := by simp; omega
      have hb' : ((b.size : Int) != 32) = false := by simp; omega
      have HA := Box.mk ha; clear ha
      have HB := Box.mk hb; clear hb
      have hmk : ∀ w, (Instr.makeSlice 35 (.int .i64 33) (.int .i64 33)).run Try.prog w = .ok (.slice (some ⟨w.heap.size, 0, none⟩) 33 33) (w.alloc (.cells (dcells 0 33) 3)) := fun _ => by kernel_rfl
      have hst : RaSt w a b 0 (w.alloc (.cells (dcells 0 33) 3)) := ⟨by rw [heap_alloc_new]; simp [Nat.mod_one], (Below.refl _ _).alloc (Nat.le_refl _) _⟩
      have HS := Box.mk hst; clear hst
      go_enter Try.func16, Try.ntmps16
      go_wp2
      go_loopw [7] (fun i wr => ∃ k : Nat, k ≤ 32 ∧ i = .int .i64 k ∧ RaSt w a b k wr) (fun i _ => 32 - (intOf i).toNat)
      case atStart => exact ⟨0, by omega, rfl, HS.out⟩
      case round =>
        clear HS
        obtain ⟨k, hk, rfl, hs⟩ := hrel
        have HS := Box.mk hs; clear hs
        by_cases hlt : k < 32
        · have hka : k < a.size := by have := HA.out; omega
          have hkb : k < b.size := by have := HB.out; omega
          have c1 : wr.cell? ⟨w.heap.size, k, none⟩ = some (.int .i64 (digit (num a % 256 ^ k + num b % 256 ^ k) k)) := by rw [cell_of_row _ _ _ _ _ _ HS.out.row]; exact dcells_get _ _ _ (by omega)
          have c2 : wr.cell? ⟨w.heap.size, k + 1, none⟩ = some (.int .i64 (digit (num a % 256 ^ k + num b % 256 ^ k) (k + 1))) := by rw [cell_of_row _ _ _ _ _ _ HS.out.row]; exact dcells_get _ _ _ (by omega)
          have f1 : wr.frozen? ⟨w.heap.size, k, none⟩ = false := frozen_of_row _ _ _ _ _ HS.out.row
          have f2 : wr.frozen? ⟨w.heap.size, k + 1, none⟩ = false := frozen_of_row _ _ _ _ _ HS.out.row
          have hd := digit_bd (num a % 256 ^ k + num b % 256 ^ k) k
          have hu := a[k].toNat_lt; have hv := b[k].toNat_lt
          have hkI : (k : Int) < (a.size : Int) := by omega
          have hkI2 : (k : Int) < (b.size : Int) := by omega
          have HST := Box.mk (fun n y hy => HS.out.step (n := n) hka hkb y hy)
          generalize digit (num a % 256 ^ k + num b % 256 ^ k) k = d at c1 hd HST
          generalize digit (num a % 256 ^ k + num b % 256 ^ k) (k + 1) = d2 at c2
          clear HS
          go_wp2_with fail
          go_quiet (fail)
          go_wp2
          go_roundw
          case rel => exact ⟨k + 1, by omega, by go_num, HST.out _ _ rfl⟩
          case measure => simp [intOf]; omega
        · have hk2 : k = 32 := by omega
          subst hk2
          have hX := num_lt a 4 (by have := HA.out; omega)
          have hY := num_lt b 4 (by have := HB.out; omega)
          have hrow := HS.out.row
          rw [Nat.mod_eq_of_lt (by omega), Nat.mod_eq_of_lt (by omega)] at hrow
          have hdr := Box.mk (DRow.of hrow)
          have hbl := (Array.getElem?_eq_some_iff.1 hrow).1
          have hN : Box (In256 (num a + num b) 33) := ⟨by unfold In256; omega⟩
          have HBL := Box.mk HS.out.below
          clear hX hY hrow HS
          go_wp2_with fail
          refine (refMod_any (num a + num b) 33 w.heap.size 33 _ hN.out (by omega) hdr.out hbl).mono ?_
          rintro e w2 ⟨rfl, hb2⟩
          go_wp2
          go_ret2
          exact ⟨rfl, HBL.out.trans (hb2.mono HBL.out.size)⟩
    · rw [if_neg (fun h => hb h.2)]
      have ha' : ((a.size : Int) != 32) = false := by simp; omega
      have hb' : ((b.size : Int) != 32) = true := by simp; omega
      have HA := Box.mk ha; clear ha
      have HB := Box.mk hb; clear hb
      go_enter Try.func16, Try.ntmps16
      go_wp2
      go_ret2
      exact ⟨rfl, Below.refl _ _⟩
  · rw [if_neg (fun h => ha h.1)]
    have ha' : ((a.size : Int) != 32) = true := by simp; omega
    have HA := Box.mk ha; clear ha
    go_enter Try.func16, Try.ntmps16
    go_wp2
    go_ret2
    exact ⟨rfl, Below.refl _ _⟩
end Go.Proofs.Ytilehlgnkfjcpaa
