/- The package limbs: From, Bytes. -/
import Derived.Test.YtpgichfagodkpaaFieldG
namespace Go.Proofs.Ytpgichfagodkpaa.Fe
set_option linter.unusedVariables false
open Go Go.RowKit

/-- The limbs of a number. -/
def ofN (n : Nat) : Nat → Nat := fun j => n / 2251799813685248 ^ j % 2251799813685248
theorem ofN_lim (n : Nat) : Lim 3 (ofN n) := ⟨fun h => by omega, fun h => by omega, fun h => by omega, fun _ j _ => Nat.mod_lt _ (by omega)⟩
theorem ofN_lv (n : Nat) : lv (ofN n) = n % 57896044618658097711785492504343953926634992332820282019728792003956564819968 := by
  rw [lv_eq]; simp only [ofN]; omega
/-- Four words' limbs. -/
theorem from_words (n w0 w1 w2 w3 : Nat) (h0 : w0 = n % 18446744073709551616) (h1 : w1 = n / 18446744073709551616 % 18446744073709551616) (h2 : w2 = n / 340282366920938463463374607431768211456 % 18446744073709551616) (h3 : w3 = n / 6277101735386680763835789423207666416102355444464034512896 % 18446744073709551616) :
    w0 % 2251799813685248 = ofN n 0 ∧ (w0 / 2251799813685248 + w1 * 8192 % 18446744073709551616) % 2251799813685248 = ofN n 1 ∧ (w1 / 274877906944 + w2 * 67108864 % 18446744073709551616) % 2251799813685248 = ofN n 2 ∧
      (w2 / 33554432 + w3 * 549755813888 % 18446744073709551616) % 2251799813685248 = ofN n 3 ∧ w3 / 4096 % 2251799813685248 = ofN n 4 := by
  simp only [ofN]
  refine ⟨by omega, by omega, by omega, by omega, by omega⟩
/-- A shift to the right beside one to the left. -/
theorem shift_or (x y r l m : Nat) (hx : x < 18446744073709551616) (hy : y < 18446744073709551616) (hr : r ≤ 64) (hl : l + r = 64) (hm : m = 2 ^ l) :
    ∃ p q : Nat, (x : Int) / (2 ^ r : Nat) = (p : Int) ∧ IntKind.u64.wrap ((y : Int) * m) = (q : Int) ∧ bits .or .u64 (p : Int) (q : Int) = ((p + q : Nat) : Int) ∧ (p = x / 2 ^ r ∧ q = y * m % 18446744073709551616 ∧ p + q < 18446744073709551616) := by
  refine ⟨x / 2 ^ r, y * m % 18446744073709551616, by simp, by rw [IntKind.wrap_u64]; omega, ?_, rfl, rfl, ?_⟩
  · have hp : x / 2 ^ r < 2 ^ l := by
      rw [Nat.div_lt_iff_lt_mul (Nat.two_pow_pos _), ← Nat.pow_add, hl]; exact hx
    have hq : y * m % 18446744073709551616 % 2 ^ l = 0 := by
      have : (18446744073709551616 : Nat) = 2 ^ l * 2 ^ r := by rw [← Nat.pow_add, hl]
      rw [this, Nat.mod_mul_right_mod, hm, Nat.mul_mod_left]
    rw [u64_or_nat _ _ (Nat.lt_of_le_of_lt (Nat.div_le_self _ _) hx) (Nat.mod_lt _ (by omega)), Nat.or_comm, nat_join l _ _ hq hp, Nat.add_comm]
  · have hp : x / 2 ^ r < 2 ^ l := by
      rw [Nat.div_lt_iff_lt_mul (Nat.two_pow_pos _), ← Nat.pow_add, hl]; exact hx
    have hq : y * m % 18446744073709551616 % 2 ^ l = 0 := by
      have : (18446744073709551616 : Nat) = 2 ^ l * 2 ^ r := by rw [← Nat.pow_add, hl]
      rw [this, Nat.mod_mul_right_mod, hm, Nat.mul_mod_left]
    have hlt : y * m % 18446744073709551616 < 2 ^ l * 2 ^ r := by
      rw [← Nat.pow_add, hl]; exact Nat.mod_lt _ (by omega)
    generalize y * m % 18446744073709551616 = q at hq hlt ⊢
    obtain ⟨c, hc⟩ := Nat.dvd_of_mod_eq_zero hq
    subst hc
    have hc2 : c < 2 ^ r := Nat.lt_of_mul_lt_mul_left hlt
    have : 2 ^ l * (c + 1) ≤ 2 ^ l * 2 ^ r := Nat.mul_le_mul (Nat.le_refl _) hc2
    rw [← Nat.pow_add, hl, Nat.mul_add] at this
    omega
theorem limb_nat (n i : Nat) : limb n i = ((n / 2 ^ (64 * i) % 18446744073709551616 : Nat) : Int) := by unfold limb; rfl
set_option maxRecDepth 100000 in
set_option maxHeartbeats 2000000 in
theorem from_any (s : ByteArray) (hs : s.size = 32) (w : World) :
    Calls Try.prog 48 #[.string s] w fun e w' => e = .returned (.agg (ecell (ofN (num s)))) ∧ Below w.heap.size w w' := by
  have hz := zeroE
  have hst : (w.alloc (.cells z5 41)).heap[w.heap.size]? = some (.cells (ecell f0) 41 (0, 0)) := heap_alloc_new _ _
  have HST := Box.mk hst; clear hst
  have hsl : s.data.toList.length = 32 := by rw [← hs]; simp
  have HSL := Box.mk hsl; clear hsl
  obtain ⟨n, hn⟩ : ∃ n, n = num s := ⟨_, rfl⟩
  rw [← hn]
  have HN := Box.mk hn; clear hn
  go_enter Try.func48, Try.ntmps48
  go_wp2_with fail
  go_loopw [5] (fun i wr => ∃ k : Nat, k ≤ 32 ∧ i = .int .i64 k ∧ wr.heap[w.heap.size + 1]? = some (.cells (wcells (leNat (s.data.toList.take k)) 4) 89 (0, 0)) ∧ wr.heap[w.heap.size]? = some (.cells (ecell f0) 41 (0, 0)) ∧ Below w.heap.size w wr) (fun i _ => 32 - (intOf i).toNat)
  case atStart => exact ⟨0, Nat.zero_le _, rfl, by
    have := heap_alloc_new (w.alloc (.cells z5 41)) (.cells #[.int .u64 0, .int .u64 0, .int .u64 0, .int .u64 0] 89)
    rw [World.size_alloc] at this
    rw [this]; simp [wcells, leNat, limb, List.range, List.range.loop], by rw [heap_alloc_old _ _ (by simp)]; exact HST.out, by go_grown⟩
  case round =>
    clear HST hz
    obtain ⟨k, hk, rfl, hrow, hr, hbel⟩ := hrel
    by_cases hlt : k < 32
    · have hkI : (k : Int) < 32 := by omega
      have hks : k < s.size := by omega
      have hc : wr.cell? ⟨w.heap.size + 1, k / 8, none⟩ = some (.int .u64 (limb (leNat (s.data.toList.take k)) (k / 8))) := by
        rw [cell_of_row _ _ _ _ _ _ hrow]; exact wcells_get _ _ _ (by omega)
      have hf : wr.frozen? ⟨w.heap.size + 1, k / 8, none⟩ = false := frozen_of_row _ _ _ _ _ hrow
      have hbd := limb_bd (leNat (s.data.toList.take k)) (k / 8)
      have HRW := Box.mk hrow; have HR := Box.mk hr; have HB := Box.mk hbel
      clear hrow hr hbel
      have hn : leNat (s.data.toList.take k) < 256 ^ k := by have := leNat_lt (s.data.toList.take k); rwa [List.length_take, Nat.min_eq_left (by have := HSL.out; omega)] at this
      obtain ⟨x, hx⟩ : ∃ x, x = limb (leNat (s.data.toList.take k)) (k / 8) := ⟨_, rfl⟩
      rw [← hx] at hc hbd
      have HX := Box.mk hx; have HS := Box.mk hs
      clear hx hs
      go_wp2
      go_region
      go_wp2
      refine ⟨⟨k + 1, by omega, by go_num, ?_, ?_, (HB.out.setCell (by simp) _).drew⟩, by simp [intOf]; omega⟩
      · rw [heap_drew, heap_setCell_same _ _ _ _ _ _ HRW.out, take_snoc s k hks, leNat_snoc, HX.out, word_or _ _ _ hn s[k].toNat_lt]
        rw [List.length_take, Nat.min_eq_left (by have := HSL.out; omega), wcells_step _ _ _ _ hn s[k].toNat_lt]
      · rw [heap_drew, heap_setCell_other _ _ _ _ (by simp)]; exact HR.out
    · obtain rfl : k = 32 := by omega
      rw [List.take_of_length_le (by have := HSL.out; omega)] at hrow
      rw [show leNat s.data.toList = n from HN.out.symm] at hrow
      have c0 : wr.cell? ⟨w.heap.size + 1, 0, none⟩ = some (.int .u64 (limb n 0)) := by rw [cell_of_row _ _ _ _ _ _ hrow]; exact wcells_get _ _ _ (by omega)
      have c1 : wr.cell? ⟨w.heap.size + 1, 1, none⟩ = some (.int .u64 (limb n 1)) := by rw [cell_of_row _ _ _ _ _ _ hrow]; exact wcells_get _ _ _ (by omega)
      have c2 : wr.cell? ⟨w.heap.size + 1, 2, none⟩ = some (.int .u64 (limb n 2)) := by rw [cell_of_row _ _ _ _ _ _ hrow]; exact wcells_get _ _ _ (by omega)
      have c3 : wr.cell? ⟨w.heap.size + 1, 3, none⟩ = some (.int .u64 (limb n 3)) := by rw [cell_of_row _ _ _ _ _ _ hrow]; exact wcells_get _ _ _ (by omega)
      rw [limb_nat] at c0 c1 c2 c3
      obtain ⟨w0, h0⟩ : ∃ x, x = n / 2 ^ (64 * 0) % 18446744073709551616 := ⟨_, rfl⟩
      obtain ⟨w1, h1⟩ : ∃ x, x = n / 2 ^ (64 * 1) % 18446744073709551616 := ⟨_, rfl⟩
      obtain ⟨w2, h2⟩ : ∃ x, x = n / 2 ^ (64 * 2) % 18446744073709551616 := ⟨_, rfl⟩
      obtain ⟨w3, h3⟩ : ∃ x, x = n / 2 ^ (64 * 3) % 18446744073709551616 := ⟨_, rfl⟩
      rw [← h0] at c0; rw [← h1] at c1; rw [← h2] at c2; rw [← h3] at c3
      obtain ⟨e0, e1, e2, e3, e4⟩ := from_words n w0 w1 w2 w3 (by rw [h0]; simp) h1 h2 h3
      have b0 : w0 < 18446744073709551616 := by rw [h0]; exact Nat.mod_lt _ (by omega)
      have b1 : w1 < 18446744073709551616 := by rw [h1]; exact Nat.mod_lt _ (by omega)
      have b2 : w2 < 18446744073709551616 := by rw [h2]; exact Nat.mod_lt _ (by omega)
      have b3 : w3 < 18446744073709551616 := by rw [h3]; exact Nat.mod_lt _ (by omega)
      clear h0 h1 h2 h3
      have a0 := and51 w0 b0
      rw [e0] at a0
      obtain ⟨p1, q1, d1, m1, o1, f1⟩ := shift_or w0 w1 51 13 8192 b0 b1 (by decide) (by decide) rfl
      obtain ⟨p2, q2, d2, m2, o2, f2⟩ := shift_or w1 w2 38 26 67108864 b1 b2 (by decide) (by decide) rfl
      obtain ⟨p3, q3, d3, m3, o3, f3⟩ := shift_or w2 w3 25 39 549755813888 b2 b3 (by decide) (by decide) rfl
      rw [show ((2 ^ 51 : Nat) : Int) = 2251799813685248 from rfl] at d1
      rw [show ((2 ^ 38 : Nat) : Int) = 274877906944 from rfl] at d2
      rw [show ((2 ^ 25 : Nat) : Int) = 33554432 from rfl] at d3
      rw [show ((8192 : Nat) : Int) = 8192 from rfl] at m1
      rw [show ((67108864 : Nat) : Int) = 67108864 from rfl] at m2
      rw [show ((549755813888 : Nat) : Int) = 549755813888 from rfl] at m3
      have a1 := and51 (p1 + q1) f1.2.2
      have a2 := and51 (p2 + q2) f2.2.2
      have a3 := and51 (p3 + q3) f3.2.2
      rw [show (p1 + q1) % 2251799813685248 = ofN n 1 from by rw [f1.1, f1.2.1]; exact e1] at a1
      rw [show (p2 + q2) % 2251799813685248 = ofN n 2 from by rw [f2.1, f2.2.1]; exact e2] at a2
      rw [show (p3 + q3) % 2251799813685248 = ofN n 3 from by rw [f3.1, f3.2.1]; exact e3] at a3
      obtain ⟨p4, hp4⟩ : ∃ p, p = w3 / 4096 := ⟨_, rfl⟩
      have d4 : (w3 : Int) / 4096 = (p4 : Int) := by omega
      have a4 := and51 p4 (by omega)
      rw [show p4 % 2251799813685248 = ofN n 4 from by rw [hp4]; exact e4] at a4
      obtain ⟨x1, hx1⟩ : ∃ x, x = p1 + q1 := ⟨_, rfl⟩
      obtain ⟨x2, hx2⟩ : ∃ x, x = p2 + q2 := ⟨_, rfl⟩
      obtain ⟨x3, hx3⟩ : ∃ x, x = p3 + q3 := ⟨_, rfl⟩
      rw [← hx1] at o1 a1; rw [← hx2] at o2 a2; rw [← hx3] at o3 a3
      have HR := Box.mk hr; have HB := Box.mk hbel
      clear hrow hr hbel f1 f2 f3 e0 e1 e2 e3 e4 hp4 hx1 hx2 hx3 b0 b1 b2 b3
      go_wp2_with ((with_reducible refine wpList_storeE rfl (.tmp 2) (.tmp 54) rfl w.heap.size (ofN n) f0 HR.out ?_ ?_ ?_); rfl; rfl)
      refine bodyPost_ret (results_cell_row (p := 2) (ty := 41) rfl _ _ w.heap.size 41 (ecell (ofN n)) (0, 0) _ rfl (setRow_heap _ _ _ _ _ _ HR.out) Try.underlying41 rfl (by kernel_rfl)) rfl ⟨rfl, ?_⟩
      exact below_setRow HB.out (Nat.le_refl _) _
end Go.Proofs.Ytpgichfagodkpaa.Fe
