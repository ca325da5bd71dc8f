/- The document's answer on scalars: Mul. -/
import Derived.Test.YtilehlgnkfjcpaaScalarRefD
namespace Go.Proofs.Ytilehlgnkfjcpaa
open Go Go.RowKit

structure RmuSt (w : World) (O : Nat) (wr : World) : Prop where
  row : wr.heap[w.heap.size]? = some (.cells (dcells O 64) 3 (0, 0))
  below : Below w.heap.size w wr
theorem RmuSt.set {w wr : World} {O : Nat} (h : RmuSt w O wr) (j v : Nat) (hv : v < 256) :
    RmuSt w (put8 O j v) (wr.setCell ⟨w.heap.size, j, none⟩ (.int .i64 (v : Int))) :=
  ⟨by rw [heap_setCell_same _ _ _ _ _ _ h.row, dcells_put _ _ _ _ hv], h.below.setCell (Nat.le_refl _) _⟩
theorem RmuSt.drewN {w wr : World} {O : Nat} (h : RmuSt w O wr) (n : Nat) : RmuSt w O (wr.drewN n) := ⟨h.row, below_drewN h.below n⟩

theorem RmuSt.step {w wr : World} {a b : ByteArray} {i k O q n : Nat} (h : RmuSt w O wr) (hi : i < a.size) (hk : k < b.size) (hk2 : k < 32) (hO : O < 2 ^ (8 * (i + 32))) (hq : q < 256)
    (he : O + q * 2 ^ (8 * (i + k)) = num a % 2 ^ (8 * i) * num b + num a / 2 ^ (8 * i) % 256 * (num b % 2 ^ (8 * k)) * 2 ^ (8 * i)) (y : Int)
    (hy : y = digit O (i + k) + a[i].toNat * b[k].toNat + q) :
    ∃ O' q' : Nat, y / 256 = (q' : Int) ∧ q' < 256 ∧ RmuSt w O' ((wr.drewN n).setCell ⟨w.heap.size, i + k, none⟩ (.int .i64 (y % 256))) ∧ O' < 2 ^ (8 * (i + 32)) ∧
      O' + q' * 2 ^ (8 * (i + (k + 1))) = num a % 2 ^ (8 * i) * num b + num a / 2 ^ (8 * i) % 256 * (num b % 2 ^ (8 * (k + 1))) * 2 ^ (8 * i) := by
  have hd := digit_bd O (i + k)
  have hu := a[i].toNat_lt; have hv := b[k].toNat_lt
  have hm : a[i].toNat * b[k].toNat ≤ 255 * 255 := Nat.mul_le_mul (by omega) (by omega)
  rw [← Int.natCast_mul] at hy
  obtain ⟨y, rfl⟩ := Int.eq_ofNat_of_zero_le (by omega : 0 ≤ y)
  refine ⟨put8 O (i + k) (y % 256), y / 256, by omega, by omega, ?_, put8_lt _ _ _ _ hO (by omega) (by omega), mul8_inner he ?_⟩
  · rw [show ((y : Int) % 256) = ((y % 256 : Nat) : Int) from by omega]
    exact (h.drewN n).set _ _ (by omega)
  · rw [num_digit a i hi, num_digit b k hk]
    rw [dig8_eq] at hy; unfold dig8 at hy
    omega

set_option maxRecDepth 100000 in
set_option maxHeartbeats 2000000 in
theorem refMul_any (a b : ByteArray) (w : World) :
    Calls Try.prog 18 #[.string a, .string b] w fun e w' => e = .returned (if a.size = 32 ∧ b.size = 32 then .tuple #[.string (sc (num a * num b)), .int .i64 0] else .tuple #[.string ⟨#[]⟩, .int .i64 50]) ∧ Below w.heap.size w w' := by
  by_cases ha : a.size = 32
  · by_cases hb : b.size = 32
    · rw [if_pos ⟨ha, hb⟩]
      have ha' : ((a.size : Int) != 32) = false := by simp; omega
      have hb' : ((b.size : Int) != 32) = false := by simp; omega
      have HA := Box.mk ha; clear ha
      have HB := Box.mk hb; clear hb
      have HX : Box (num a < 2 ^ 256) := ⟨num_lt a 4 (by have := HA.out; omega)⟩
      have HY : Box (num b < 2 ^ 256) := ⟨num_lt b 4 (by have := HB.out; omega)⟩
      have hmk : ∀ w, (Instr.makeSlice 35 (.int .i64 64) (.int .i64 64)).run Try.prog w = .ok (.slice (some ⟨w.heap.size, 0, none⟩) 64 64) (w.alloc (.cells (dcells 0 64) 3)) := fun _ => by kernel_rfl
      have hst : RmuSt w 0 (w.alloc (.cells (dcells 0 64) 3)) := ⟨by rw [heap_alloc_new], (Below.refl _ _).alloc (Nat.le_refl _) _⟩
      have HS := Box.mk hst; clear hst
      go_enter Try.func18, Try.ntmps18
      go_wp2
      go_loopw [7] (fun i wr => ∃ k : Nat, k ≤ 32 ∧ i = .int .i64 k ∧ RmuSt w (num a % 2 ^ (8 * k) * num b) wr) (fun i _ => 32 - (intOf i).toNat)
      case atStart => exact ⟨0, by omega, rfl, by simpa [Nat.mod_one] using HS.out⟩
      case round =>
        clear HS
        obtain ⟨i, hi, rfl, hs⟩ := hrel
        have HS := Box.mk hs; clear hs
        by_cases hlt : i < 32
        · go_wp2_with fail
          go_loopw [8, 9] (fun z j wr => ∃ (k q O : Nat), k ≤ 32 ∧ j = .int .i64 k ∧ z = .int .i64 q ∧ q < 256 ∧ RmuSt w O wr ∧ O < 2 ^ (8 * (i + 32)) ∧
            O + q * 2 ^ (8 * (i + k)) = num a % 2 ^ (8 * i) * num b + num a / 2 ^ (8 * i) % 256 * (num b % 2 ^ (8 * k)) * 2 ^ (8 * i)) (fun _ j _ => 32 - (intOf j).toNat)
          case atStart => exact ⟨0, 0, _, by omega, rfl, rfl, by omega, HS.out, mul8_lt HY.out, by simp [Nat.mod_one]⟩
          case round =>
            clear HS
            obtain ⟨k, q, O, hk, rfl, rfl, hq, hs, hOl, hOe⟩ := hrel
            have HS := Box.mk hs; clear hs
            have HOL := Box.mk hOl; clear hOl
            have HOE := Box.mk hOe; clear hOe
            by_cases hkt : k < 32
            · have hka : i < a.size := by have := HA.out; omega
              have hkb : k < b.size := by have := HB.out; omega
              have hkI : (i : Int) < (a.size : Int) := by omega
              have hkI2 : (k : Int) < (b.size : Int) := by omega
              have c1 : wr.cell? ⟨w.heap.size, i + k, none⟩ = some (.int .i64 (digit O (i + k))) := by rw [cell_of_row _ _ _ _ _ _ HS.out.row]; exact dcells_get _ _ _ (by omega)
              have f1 : wr.frozen? ⟨w.heap.size, i + k, none⟩ = false := frozen_of_row _ _ _ _ _ HS.out.row
              have hd := digit_bd O (i + k)
              have hu := a[i].toNat_lt; have hv := b[k].toNat_lt
              have hm0 : 0 ≤ (a[i].toNat : Int) * (b[k].toNat : Int) := by rw [← Int.natCast_mul]; omega
              have hm1 : (a[i].toNat : Int) * (b[k].toNat : Int) ≤ 65025 := by
                have : a[i].toNat * b[k].toNat ≤ 255 * 255 := Nat.mul_le_mul (by omega) (by omega)
                rw [← Int.natCast_mul]; omega
              have HST := Box.mk (fun n y hy => HS.out.step (n := n) hka hkb hkt HOL.out hq HOE.out y hy)
              generalize digit O (i + k) = d at c1 hd HST
              clear HS HOL HOE
              go_wp2_with fail
              go_quiet (fail)
              go_wp2
              obtain ⟨O', q', e1, e2, e3, e4, e5⟩ := HST.out nq _ rfl
              exact ⟨⟨k + 1, q', O', by omega, by go_num, by rw [e1], e2, e3, e4, e5⟩, by simp [intOf]; omega⟩
            · have hk2 : k = 32 := by omega
              subst hk2
              have c1 : wr.cell? ⟨w.heap.size, i + 32, none⟩ = some (.int .i64 (digit O (i + 32))) := by rw [cell_of_row _ _ _ _ _ _ HS.out.row]; exact dcells_get _ _ _ (by omega)
              have f1 : wr.frozen? ⟨w.heap.size, i + 32, none⟩ = false := frozen_of_row _ _ _ _ _ HS.out.row
              go_wp2
              have hst := HS.out.set (i + 32) q hq
              rw [mul8_outer HY.out HOL.out HOE.out] at hst
              exact ⟨⟨i + 1, by omega, by go_num, hst⟩, by simp [intOf]; omega⟩
        · have hi2 : i = 32 := by omega
          subst hi2
          have hrow := HS.out.row
          rw [Nat.mod_eq_of_lt HX.out] at hrow
          have hdr := Box.mk (DRow.of hrow)
          have hbl := (Array.getElem?_eq_some_iff.1 hrow).1
          have hN : Box (In256 (num a * num b) 64) := ⟨In256.mul (k := 32) HX.out HY.out⟩
          have HBL := Box.mk HS.out.below
          clear hrow HS
          go_wp2_with fail
          refine (refMod_any (num a * num b) 64 w.heap.size 64 _ hN.out (by omega) hdr.out hbl).mono ?_
          rintro e w2 ⟨rfl, hb2⟩
          go_wp2
          go_ret2
          exact ⟨rfl, HBL.out.trans (hb2.mono HBL.out.size)⟩
    · rw [if_neg (fun h => hb h.2)]
      have ha' : ((a.size : Int) != 32) = false := by simp; omega
      have hb' : ((b.size : Int) != 32) = true := by simp; omega
      have HA := Box.mk ha; clear ha
      have HB := Box.mk hb; clear hb
      go_enter Try.func18, Try.ntmps18
      go_wp2
      go_ret2
      exact ⟨rfl, Below.refl _ _⟩
  · rw [if_neg (fun h => ha h.1)]
    have ha' : ((a.size : Int) != 32) = true := by simp; omega
    have HA := Box.mk ha; clear ha
    go_enter Try.func18, Try.ntmps18
    go_wp2
    go_ret2
    exact ⟨rfl, Below.refl _ _⟩
end Go.Proofs.Ytilehlgnkfjcpaa
