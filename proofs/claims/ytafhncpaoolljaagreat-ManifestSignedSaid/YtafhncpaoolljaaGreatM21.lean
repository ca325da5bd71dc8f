/- The package limbs: From, Bytes. The package limbs: Bytes. The package limbs: Neg, Odd; sums and differences modulo the prime. Numbers of 16 digits of base 65536: plain laws. Nothing of the program. The document's numbers: Below, less. The document's numbers: P, Small. -/
import Derived.Test.YtafhncpaoolljaaGreatM19
import Derived.Deep.Cut
import Derived.Test.YtafhncpaoolljaaGreatM17
namespace Go.Proofs.YtafhncpaoolljaaGreat.Fe
set_option maxRecDepth 100000
set_option linter.unusedVariables false
open Go Go.RowKit
def ofN (n : Nat) : Nat → Nat := fun j => n / 2251799813685248 ^ j % 2251799813685248
theorem ofN_lim (n : Nat) : Lim 3 (ofN n) := ⟨fun h => by omega, fun h => by omega, fun h => by omega, fun _ j _ => Nat.mod_lt _ (by omega)⟩
theorem ofN_lv (n : Nat) : lv (ofN n) = n % 57896044618658097711785492504343953926634992332820282019728792003956564819968 := by
 rw [lv_eq]; simp only [ofN]; omega
theorem from_words (n w0 w1 w2 w3 : Nat) (h0 : w0 = n % 18446744073709551616) (h1 : w1 = n / 18446744073709551616 % 18446744073709551616) (h2 : w2 = n / 340282366920938463463374607431768211456 % 18446744073709551616) (h3 : w3 = n / 6277101735386680763835789423207666416102355444464034512896 % 18446744073709551616) :
   w0 % 2251799813685248 = ofN n 0 ∧ (w0 / 2251799813685248 + w1 * 8192 % 18446744073709551616) % 2251799813685248 = ofN n 1 ∧ (w1 / 274877906944 + w2 * 67108864 % 18446744073709551616) % 2251799813685248 = ofN n 2 ∧
     (w2 / 33554432 + w3 * 549755813888 % 18446744073709551616) % 2251799813685248 = ofN n 3 ∧ w3 / 4096 % 2251799813685248 = ofN n 4 := by
 simp only [ofN]
 refine ⟨by omega, by omega, by omega, by omega, by omega⟩
theorem shift_or (x y r l m : Nat) (hx : x < 18446744073709551616) (hy : y < 18446744073709551616) (hr : r ≤ 64) (hl : l + r = 64) (hm : m = 2 ^ l) :
   ∃ p q : Nat, (x : Int) / (2 ^ r : Nat) = (p : Int) ∧ IntKind.u64.wrap ((y : Int) * m) = (q : Int) ∧ bits .or .u64 (p : Int) (q : Int) = ((p + q : Nat) : Int) ∧ (p = x / 2 ^ r ∧ q = y * m % 18446744073709551616 ∧ p + q < 18446744073709551616) := by
 refine ⟨x / 2 ^ r, y * m % 18446744073709551616, by simp, by rw [IntKind.wrap_u64]; omega, ?_, rfl, rfl, ?_⟩
 · have hp : x / 2 ^ r < 2 ^ l := by
     rw [Nat.div_lt_iff_lt_mul (Nat.two_pow_pos _), ← Nat.pow_add, hl]; exact hx
   have hq : y * m % 18446744073709551616 % 2 ^ l = 0 := by
     have : (18446744073709551616 : Nat) = 2 ^ l * 2 ^ r := by rw [← Nat.pow_add, hl]
     rw [this, Nat.mod_mul_right_mod, hm, Nat.mul_mod_left]
   rw [u64_or_nat _ _ (Nat.lt_of_le_of_lt (Nat.div_le_self _ _) hx) (Nat.mod_lt _ (by omega)), Nat.or_comm, nat_join l _ _ hq hp, Nat.add_comm]
 · have hp : x / 2 ^ r < 2 ^ l := by
     rw [Nat.div_lt_iff_lt_mul (Nat.two_pow_pos _), ← Nat.pow_add, hl]; exact hx
   have hq : y * m % 18446744073709551616 % 2 ^ l = 0 := by
     have : (18446744073709551616 : Nat) = 2 ^ l * 2 ^ r := by rw [← Nat.pow_add, hl]
     rw [this, Nat.mod_mul_right_mod, hm, Nat.mul_mod_left]
   have hlt : y * m % 18446744073709551616 < 2 ^ l * 2 ^ r := by
     rw [← Nat.pow_add, hl]; exact Nat.mod_lt _ (by omega)
   generalize y * m % 18446744073709551616 = q at hq hlt ⊢
   obtain ⟨c, hc⟩ := Nat.dvd_of_mod_eq_zero hq
   subst hc
   have hc2 : c < 2 ^ r := Nat.lt_of_mul_lt_mul_left hlt
   have : 2 ^ l * (c + 1) ≤ 2 ^ l * 2 ^ r := Nat.mul_le_mul (Nat.le_refl _) hc2
   rw [← Nat.pow_add, hl, Nat.mul_add] at this
   omega
theorem limb_nat (n i : Nat) : limb n i = ((n / 2 ^ (64 * i) % 18446744073709551616 : Nat) : Int) := by unfold limb; rfl
set_option maxRecDepth 100000 in
set_option maxHeartbeats 2000000 in
theorem from_any (s : ByteArray) (hs : s.size = 32) (w : World) :
   Calls Tryz.prog 55 #[.string s] w fun e w' => e = .returned (.agg (ecell (ofN (num s)))) ∧ Below w.heap.size w w' := by
 have hz := zeroE
 have hst : (w.alloc (.cells z5 56)).heap[w.heap.size]? = some (.cells (ecell f0) 56 (0, 0)) := heap_alloc_new _ _
 have HST := Box.mk hst; clear hst
 have hsl : s.data.toList.length = 32 := by rw [← hs]; simp
 have HSL := Box.mk hsl; clear hsl
 obtain ⟨n, hn⟩ : ∃ n, n = num s := ⟨_, rfl⟩
 rw [← hn]
 have HN := Box.mk hn; clear hn
 go_enter Tryz.func55, Tryz.ntmps55
 go_wp2_with fail
 go_loopw [5] (fun i wr => ∃ k : Nat, k ≤ 32 ∧ i = .int .i64 k ∧ wr.heap[w.heap.size + 1]? = some (.cells (wcells (leNat (s.data.toList.take k)) 4) 76 (0, 0)) ∧ wr.heap[w.heap.size]? = some (.cells (ecell f0) 56 (0, 0)) ∧ Below w.heap.size w wr) (fun i _ => 32 - (intOf i).toNat)
 case atStart => exact ⟨0, Nat.zero_le _, rfl, by
   have := heap_alloc_new (w.alloc (.cells z5 56)) (.cells #[.int .u64 0, .int .u64 0, .int .u64 0, .int .u64 0] 76)
   rw [World.size_alloc] at this
   rw [this]; simp [wcells, leNat, limb, List.range, List.range.loop], by rw [heap_alloc_old _ _ (by simp)]; exact HST.out, by go_grown⟩
 case round =>
   clear HST hz
   obtain ⟨k, hk, rfl, hrow, hr, hbel⟩ := hrel
   by_cases hlt : k < 32
   · have hkI : (k : Int) < 32 := by omega
     have hks : k < s.size := by omega
     have hc : wr.cell? ⟨w.heap.size + 1, k / 8, none⟩ = some (.int .u64 (limb (leNat (s.data.toList.take k)) (k / 8))) := by
       rw [cell_of_row _ _ _ _ _ _ hrow]; exact wcells_get _ _ _ (by omega)
     have hf : wr.frozen? ⟨w.heap.size + 1, k / 8, none⟩ = false := frozen_of_row _ _ _ _ _ hrow
     have hbd := limb_bd (leNat (s.data.toList.take k)) (k / 8)
     have HRW := Box.mk hrow; have HR := Box.mk hr; have HB := Box.mk hbel
     clear hrow hr hbel
     have hn : leNat (s.data.toList.take k) < 256 ^ k := by have := leNat_lt (s.data.toList.take k); rwa [List.length_take, Nat.min_eq_left (by have := HSL.out; omega)] at this
     obtain ⟨x, hx⟩ : ∃ x, x = limb (leNat (s.data.toList.take k)) (k / 8) := ⟨_, rfl⟩
     rw [← hx] at hc hbd
     have HX := Box.mk hx; have HS := Box.mk hs
     clear hx hs
     go_wp2
     go_region
     go_wp2
     refine ⟨⟨k + 1, by omega, by go_num, ?_, ?_, (HB.out.setCell (by simp) _).drew⟩, by simp [intOf]; omega⟩
     · rw [heap_drew, heap_setCell_same _ _ _ _ _ _ HRW.out, take_snoc s k hks, leNat_snoc, HX.out, word_or _ _ _ hn s[k].toNat_lt]
       rw [List.length_take, Nat.min_eq_left (by have := HSL.out; omega), wcells_step _ _ _ _ hn s[k].toNat_lt]
     · rw [heap_drew, heap_setCell_other _ _ _ _ (by simp)]; exact HR.out
   · obtain rfl : k = 32 := by omega
     rw [List.take_of_length_le (by have := HSL.out; omega)] at hrow
     rw [show leNat s.data.toList = n from HN.out.symm] at hrow
     have c0 : wr.cell? ⟨w.heap.size + 1, 0, none⟩ = some (.int .u64 (limb n 0)) := by rw [cell_of_row _ _ _ _ _ _ hrow]; exact wcells_get _ _ _ (by omega)
     have c1 : wr.cell? ⟨w.heap.size + 1, 1, none⟩ = some (.int .u64 (limb n 1)) := by rw [cell_of_row _ _ _ _ _ _ hrow]; exact wcells_get _ _ _ (by omega)
     have c2 : wr.cell? ⟨w.heap.size + 1, 2, none⟩ = some (.int .u64 (limb n 2)) := by rw [cell_of_row _ _ _ _ _ _ hrow]; exact wcells_get _ _ _ (by omega)
     have c3 : wr.cell? ⟨w.heap.size + 1, 3, none⟩ = some (.int .u64 (limb n 3)) := by rw [cell_of_row _ _ _ _ _ _ hrow]; exact wcells_get _ _ _ (by omega)
     rw [limb_nat] at c0 c1 c2 c3
     obtain ⟨w0, h0⟩ : ∃ x, x = n / 2 ^ (64 * 0) % 18446744073709551616 := ⟨_, rfl⟩
     obtain ⟨w1, h1⟩ : ∃ x, x = n / 2 ^ (64 * 1) % 18446744073709551616 := ⟨_, rfl⟩
     obtain ⟨w2, h2⟩ : ∃ x, x = n / 2 ^ (64 * 2) % 18446744073709551616 := ⟨_, rfl⟩
     obtain ⟨w3, h3⟩ : ∃ x, x = n / 2 ^ (64 * 3) % 18446744073709551616 := ⟨_, rfl⟩
     rw [← h0] at c0; rw [← h1] at c1; rw [← h2] at c2; rw [← h3] at c3
     obtain ⟨e0, e1, e2, e3, e4⟩ := from_words n w0 w1 w2 w3 (by rw [h0]; simp) h1 h2 h3
     have b0 : w0 < 18446744073709551616 := by rw [h0]; exact Nat.mod_lt _ (by omega)
     have b1 : w1 < 18446744073709551616 := by rw [h1]; exact Nat.mod_lt _ (by omega)
     have b2 : w2 < 18446744073709551616 := by rw [h2]; exact Nat.mod_lt _ (by omega)
     have b3 : w3 < 18446744073709551616 := by rw [h3]; exact Nat.mod_lt _ (by omega)
     clear h0 h1 h2 h3
     have a0 := and51 w0 b0
     rw [e0] at a0
     obtain ⟨p1, q1, d1, m1, o1, f1⟩ := shift_or w0 w1 51 13 8192 b0 b1 (by decide) (by decide) rfl
     obtain ⟨p2, q2, d2, m2, o2, f2⟩ := shift_or w1 w2 38 26 67108864 b1 b2 (by decide) (by decide) rfl
     obtain ⟨p3, q3, d3, m3, o3, f3⟩ := shift_or w2 w3 25 39 549755813888 b2 b3 (by decide) (by decide) rfl
     rw [show ((2 ^ 51 : Nat) : Int) = 2251799813685248 from rfl] at d1
     rw [show ((2 ^ 38 : Nat) : Int) = 274877906944 from rfl] at d2
     rw [show ((2 ^ 25 : Nat) : Int) = 33554432 from rfl] at d3
     rw [show ((8192 : Nat) : Int) = 8192 from rfl] at m1
     rw [show ((67108864 : Nat) : Int) = 67108864 from rfl] at m2
     rw [show ((549755813888 : Nat) : Int) = 549755813888 from rfl] at m3
     have a1 := and51 (p1 + q1) f1.2.2
     have a2 := and51 (p2 + q2) f2.2.2
     have a3 := and51 (p3 + q3) f3.2.2
     rw [show (p1 + q1) % 2251799813685248 = ofN n 1 from by rw [f1.1, f1.2.1]; exact e1] at a1
     rw [show (p2 + q2) % 2251799813685248 = ofN n 2 from by rw [f2.1, f2.2.1]; exact e2] at a2
     rw [show (p3 + q3) % 2251799813685248 = ofN n 3 from by rw [f3.1, f3.2.1]; exact e3] at a3
     obtain ⟨p4, hp4⟩ : ∃ p, p = w3 / 4096 := ⟨_, rfl⟩
     have d4 : (w3 : Int) / 4096 = (p4 : Int) := by omega
     have a4 := and51 p4 (by omega)
     rw [show p4 % 2251799813685248 = ofN n 4 from by rw [hp4]; exact e4] at a4
     obtain ⟨x1, hx1⟩ : ∃ x, x = p1 + q1 := ⟨_, rfl⟩
     obtain ⟨x2, hx2⟩ : ∃ x, x = p2 + q2 := ⟨_, rfl⟩
     obtain ⟨x3, hx3⟩ : ∃ x, x = p3 + q3 := ⟨_, rfl⟩
     rw [← hx1] at o1 a1; rw [← hx2] at o2 a2; rw [← hx3] at o3 a3
     have HR := Box.mk hr; have HB := Box.mk hbel
     clear hrow hr hbel f1 f2 f3 e0 e1 e2 e3 e4 hp4 hx1 hx2 hx3 b0 b1 b2 b3
     go_wp2_with ((with_reducible refine wpList_storeE rfl (.tmp 2) (.tmp 54) rfl w.heap.size (ofN n) f0 HR.out ?_ ?_ ?_); rfl; rfl)
     refine bodyPost_ret (results_cell_row (p := 2) (ty := 56) rfl _ _ w.heap.size 56 (ecell (ofN n)) (0, 0) _ rfl (setRow_heap _ _ _ _ _ _ HR.out) Tryz.underlying56 rfl (by kernel_rfl)) rfl ⟨rfl, ?_⟩
     exact below_setRow HB.out (Nat.le_refl _) _
open Go Go.RowKit
theorem shift_or2 (x y r l m : Nat) (hx : x < 2 ^ (l + r)) (hx64 : x < 18446744073709551616) (hl : l ≤ 64) (hm : m = 2 ^ l) :
   ∃ p q : Nat, (x : Int) / (2 ^ r : Nat) = (p : Int) ∧ IntKind.u64.wrap ((y : Int) * (m : Nat)) = (q : Int) ∧ bits .or .u64 (p : Int) (q : Int) = ((p + q : Nat) : Int) ∧ (p = x / 2 ^ r ∧ q = y * m % 18446744073709551616) := by
 have hp : x / 2 ^ r < 2 ^ l := by rw [Nat.div_lt_iff_lt_mul (Nat.two_pow_pos _), ← Nat.pow_add]; exact hx
 have hq : y * m % 18446744073709551616 % 2 ^ l = 0 := by
   have : (18446744073709551616 : Nat) = 2 ^ l * 2 ^ (64 - l) := by rw [← Nat.pow_add, show l + (64 - l) = 64 from by omega]
   rw [this, Nat.mod_mul_right_mod, hm, Nat.mul_mod_left]
 refine ⟨x / 2 ^ r, y * m % 18446744073709551616, by simp, by rw [IntKind.wrap_u64]; omega, ?_, rfl, rfl⟩
 rw [u64_or_nat _ _ (Nat.lt_of_le_of_lt (Nat.div_le_self _ _) hx64) (Nat.mod_lt _ (by omega)), Nat.or_comm, nat_join l _ _ hq hp, Nat.add_comm]
theorem words_lv (g : Nat → Nat) (h : Lim 3 g) : g 0 + g 1 * 2251799813685248 % 18446744073709551616 = lv g / 2 ^ (64 * 0) % 18446744073709551616 ∧ g 1 / 2 ^ 13 + g 2 * 274877906944 % 18446744073709551616 = lv g / 2 ^ (64 * 1) % 18446744073709551616 ∧
   g 2 / 2 ^ 26 + g 3 * 33554432 % 18446744073709551616 = lv g / 2 ^ (64 * 2) % 18446744073709551616 ∧ g 3 / 2 ^ 39 + g 4 * 4096 % 18446744073709551616 = lv g / 2 ^ (64 * 3) % 18446744073709551616 := by
 have h0 := h.m3 (by omega) 0 (by omega); have h1 := h.m3 (by omega) 1 (by omega); have h2 := h.m3 (by omega) 2 (by omega); have h3 := h.m3 (by omega) 3 (by omega); have h4 := h.m3 (by omega) 4 (by omega)
 rw [lv_eq]
 simp only [Nat.reduceMul, Nat.reducePow]
 refine ⟨by omega, by omega, by omega, by omega⟩
set_option maxRecDepth 100000 in
set_option maxHeartbeats 2000000 in
theorem bytes_any (f : Nat → Nat) (hf : Lim 0 f) (w : World) :
   Calls Tryz.prog 56 #[.agg (ecell f)] w fun e w' => e = .returned (.string (sbytes (lv f % fp))) ∧ Below w.heap.size w w' := by
 have hmk : ∀ w, (Instr.makeSlice 29 (.int .i64 32) (.int .i64 32)).run Tryz.prog w = .ok (.slice (some ⟨w.heap.size, 0, none⟩) 32 32) (w.alloc (.cells (bcells 0 0 32) 5)) := fun _ => by kernel_rfl
 obtain ⟨N, hN⟩ : ∃ N, N = lv f % fp := ⟨_, rfl⟩
 rw [← hN]
 obtain ⟨W0, hW0⟩ : ∃ W, W = w.alloc (.cells (ecell f) 56) := ⟨_, rfl⟩
 have g0 : W0.heap[w.heap.size]? = some (.cells (ecell f) 56 (0, 0)) := by rw [hW0]; exact heap_alloc_new _ _
 have b0 : Below w.heap.size w W0 := by rw [hW0]; go_grown
 have G0 := Box.mk g0; have B0 := Box.mk b0; have HF := Box.mk hf; have HN := Box.mk hN; have HMK := Box.mk hmk
 clear g0 b0 hf hN hmk
 go_enter Tryz.func56, Tryz.ntmps56
 go_upto_region 1 with (fail)
 rw [← hW0]
 clear hW0
 go_wp2_with ((with_reducible refine wpList_loadE rfl (.tmp 1) rfl w.heap.size f G0.out ?_ ?_); rfl)
 refine (least_any f HF.out _).mono ?_
 rintro e w2 ⟨g, rfl, hl, hv, hb⟩
 have g2 : w2.heap[w.heap.size]? = some (.cells (ecell f) 56 (0, 0)) := (hb.block _ (Array.getElem?_eq_some_iff.1 G0.out).1).trans G0.out
 have b2 := B0.out.trans (hb.mono B0.out.size)
 obtain ⟨W3, hW3⟩ : ∃ W, W = w2.setRow w.heap.size (ecell g) := ⟨_, rfl⟩
 have g3 : W3.heap[w.heap.size]? = some (.cells (ecell g) 56 (0, 0)) := by rw [hW3]; exact setRow_heap _ _ _ _ _ _ g2
 have b3 : Below w.heap.size w W3 := by rw [hW3]; exact below_setRow b2 (Nat.le_refl _) _
 have G2 := Box.mk g2; have B3 := Box.mk b3
 go_upto_region 2 with ((with_reducible refine wpList_storeE rfl (.tmp 1) (.tmp 7) rfl w.heap.size g f G2.out ?_ ?_ ?_); rfl; rfl)
 go_frame
 rw [← hW3]
 clear hW3 g2 b2 b3 hb
 have l0 := hl.m3 (by omega) 0 (by omega); have l1 := hl.m3 (by omega) 1 (by omega); have l2 := hl.m3 (by omega) 2 (by omega); have l3 := hl.m3 (by omega) 3 (by omega); have l4 := hl.m3 (by omega) 4 (by omega)
 obtain ⟨u0, u1, u2, u3⟩ := words_lv g hl
 rw [hv, ← HN.out] at u0 u1 u2 u3
 have c0 := cell_of_row _ _ 0 _ _ _ g3; have c1 := cell_of_row _ _ 1 _ _ _ g3; have c2 := cell_of_row _ _ 2 _ _ _ g3; have c3 := cell_of_row _ _ 3 _ _ _ g3; have c4 := cell_of_row _ _ 4 _ _ _ g3
 simp [ecell] at c0 c1 c2 c3 c4
 obtain ⟨p0, q0, d0, m0, o0, f0⟩ := shift_or2 (g 0) (g 1) 0 51 2251799813685248 (by omega) (by omega) (by omega) rfl
 obtain ⟨p1, q1, d1, m1, o1, f1⟩ := shift_or2 (g 1) (g 2) 13 38 274877906944 (by omega) (by omega) (by omega) rfl
 obtain ⟨p2, q2, d2, m2, o2, f2⟩ := shift_or2 (g 2) (g 3) 26 25 33554432 (by omega) (by omega) (by omega) rfl
 obtain ⟨p3, q3, d3, m3, o3, f3⟩ := shift_or2 (g 3) (g 4) 39 12 4096 (by omega) (by omega) (by omega) rfl
 have e0 : p0 + q0 = N / 2 ^ (64 * 0) % 18446744073709551616 := by rw [f0.1, f0.2, ← u0]; simp
 have e1 : p1 + q1 = N / 2 ^ (64 * 1) % 18446744073709551616 := by rw [f1.1, f1.2]; exact u1
 have e2 : p2 + q2 = N / 2 ^ (64 * 2) % 18446744073709551616 := by rw [f2.1, f2.2]; exact u2
 have e3 : p3 + q3 = N / 2 ^ (64 * 3) % 18446744073709551616 := by rw [f3.1, f3.2]; exact u3
 have hp0 : p0 = g 0 := by rw [f0.1]; simp
 rw [hp0] at o0
 rw [show ((2251799813685248 : Nat) : Int) = 2251799813685248 from rfl] at m0
 rw [show ((2 ^ 13 : Nat) : Int) = 8192 from rfl] at d1
 rw [show ((274877906944 : Nat) : Int) = 274877906944 from rfl] at m1
 rw [show ((2 ^ 26 : Nat) : Int) = 67108864 from rfl] at d2
 rw [show ((33554432 : Nat) : Int) = 33554432 from rfl] at m2
 rw [show ((2 ^ 39 : Nat) : Int) = 549755813888 from rfl] at d3
 rw [show ((4096 : Nat) : Int) = 4096 from rfl] at m3
 rw [← hp0] at o0
 rw [← hp0] at c0
 have hwc : wcells N 4 = #[.int .u64 ((p0 + q0 : Nat) : Int), .int .u64 ((p1 + q1 : Nat) : Int), .int .u64 ((p2 + q2 : Nat) : Int), .int .u64 ((p3 + q3 : Nat) : Int)] := by
   rw [e0, e1, e2, e3]; simp [wcells, List.range, List.range.loop, limb_nat]
 obtain ⟨x0, hx0⟩ : ∃ x, x = p0 + q0 := ⟨_, rfl⟩
 obtain ⟨x1, hx1⟩ : ∃ x, x = p1 + q1 := ⟨_, rfl⟩
 obtain ⟨x2, hx2⟩ : ∃ x, x = p2 + q2 := ⟨_, rfl⟩
 obtain ⟨x3, hx3⟩ : ∃ x, x = p3 + q3 := ⟨_, rfl⟩
 rw [← hx0] at o0 hwc; rw [← hx1] at o1 hwc; rw [← hx2] at o2 hwc; rw [← hx3] at o3 hwc
 generalize g 1 = y1 at c1 m0 d1
 generalize g 2 = y2 at c2 m1 d2
 generalize g 3 = y3 at c3 m2 d3
 generalize g 4 = y4 at c4 m3
 have HWC := Box.mk hwc
 have hzb : w.heap.size < W3.heap.size := World.block_lt_of_cell? _ _ c0
 clear g3 l0 l1 l2 l3 l4 u0 u1 u2 u3 f0 f1 f2 f3 e0 e1 e2 e3 hp0 hx0 hx1 hx2 hx3 hwc hl hv d0
 go_upto_region 3 with (fail)
 rw [← HWC.out]
 obtain ⟨bb, hbb⟩ : ∃ b, b = W3.heap.size := ⟨_, rfl⟩
 rw [← hbb]
 obtain ⟨W4, hW4⟩ : ∃ W, W = W3.alloc (.cells (wcells N 4) 76) := ⟨_, rfl⟩
 rw [← hW4]
 have q4 : W4.heap[bb]? = some (.cells (wcells N 4) 76 (0, 0)) := by rw [hW4, hbb]; exact heap_alloc_new _ _
 have b4 : Below w.heap.size w W4 := by rw [hW4]; exact B3.out.alloc B3.out.size _
 have hlt4 : bb < W4.heap.size := (Array.getElem?_eq_some_iff.1 q4).1
 obtain ⟨bc, hbc⟩ : ∃ b, b = W4.heap.size := ⟨_, rfl⟩
 obtain ⟨W5, hW5⟩ : ∃ W, W = W4.alloc (.cells (bcells 0 0 32) 5) := ⟨_, rfl⟩
 have q5 : W5.heap[bb]? = some (.cells (wcells N 4) 76 (0, 0)) := by rw [hW5, heap_alloc_old _ _ hlt4]; exact q4
 have q6 : W5.heap[bc]? = some (.cells (bcells N 0 32) 5 (0, 0)) := by
   rw [hW5, hbc, heap_alloc_new]; simp [bcells]
 have b5 : Below w.heap.size w W5 := by rw [hW5]; exact b4.alloc b4.size _
 have hne : bb ≠ bc := by omega
 have hgb : w.heap.size ≤ bc := by have := b4.size; omega
 have Q5 := Box.mk q5; have Q6 := Box.mk q6; have B5 := Box.mk b5
 have hmk := HMK.out W4
 rw [← hW5, ← hbc] at hmk
 clear q4 q5 q6 b4 b5 hlt4 hW4 hbb hW5 hbc c0 c1 c2 c3 c4 o0 o1 o2 o3 m0 m1 m2 m3 d1 d2 d3 hzb
 go_wp2_with fail
 clear hmk
 go_loopw [39] (fun i wr => ∃ k : Nat, k ≤ 32 ∧ i = .int .i64 k ∧ wr.heap[bb]? = some (.cells (wcells N 4) 76 (0, 0)) ∧ wr.heap[bc]? = some (.cells (bcells N k 32) 5 (0, 0)) ∧ Below w.heap.size w wr) (fun i _ => 32 - (intOf i).toNat)
 case atStart => exact ⟨0, Nat.zero_le _, rfl, Q5.out, Q6.out, B5.out⟩
 case round =>
   clear Q5 Q6 B5
   obtain ⟨k, hk, rfl, hrow, hrow2, hbel⟩ := hrel
   by_cases hlt : k < 32
   · have hkI : (k : Int) < 32 := by omega
     have hc : wr.cell? ⟨bb, k / 8, none⟩ = some (.int .u64 (limb N (k / 8))) := by
       rw [cell_of_row _ _ _ _ _ _ hrow]; exact wcells_get _ _ _ (by omega)
     have hc2 : wr.cell? ⟨bc, k, none⟩ = some (.int .u8 ((if k < k then N / 256 ^ k % 256 else 0 : Nat) : Int)) := by
       rw [cell_of_row _ _ _ _ _ _ hrow2]; simp [bcells, hlt]
     have hf : wr.frozen? ⟨bc, k, none⟩ = false := frozen_of_row _ _ _ _ _ hrow2
     have hbd := limb_bd N (k / 8)
     have HR := Box.mk hrow; have HR2 := Box.mk hrow2; have HB := Box.mk hbel
     clear hrow hrow2 hbel
     have HX := Box.mk (byte_of N k)
     generalize limb N (k / 8) = x at hc hbd HX
     go_wp2
     refine ⟨⟨k + 1, by omega, by go_num, ?_, ?_, HB.out.setCell hgb _⟩, by simp [intOf]; omega⟩
     · rw [heap_setCell_other _ _ _ _ (by simpa using hne)]; exact HR.out
     · rw [heap_setCell_same _ _ _ _ _ _ HR2.out, HX.out, bcells_step]
   · have hk' : k = 32 := by omega
     subst hk'
     rw [bcells_all] at hrow2
     have hcv := run_bytes_of_row Tryz.prog wr bc 32 _ _ 29 9 5 32 (leList_length _ _) Tryz.underlying29 Tryz.underlying5 Tryz.underlying9 hrow2
     clear hrow hrow2
     have HB := Box.mk hbel; clear hbel
     go_wp2
     go_ret
     exact ⟨rfl, HB.out⟩
open Go Go.RowKit
theorem addm_any (f g : Nat → Nat) (hf : Lim 2 f) (hg : Lim 2 g) (w : World) :
   Calls Tryz.prog 61 #[.agg (ecell f), .agg (ecell g)] w fun e w' => ∃ h, e = .returned (.agg (ecell h)) ∧ Lim 2 h ∧ lv h % fp = (lv f + lv g) % fp ∧ Below w.heap.size w w' :=
 (add_any f g hf hg w).mono fun _ _ ⟨h, he, hl, hv, hb⟩ => ⟨h, he, hl, by rw [hv, addF_lv], hb⟩
theorem subm_any (f g : Nat → Nat) (hf : Lim 2 f) (hg : Lim 2 g) (w : World) :
   Calls Tryz.prog 59 #[.agg (ecell f), .agg (ecell g)] w fun e w' => ∃ h, e = .returned (.agg (ecell h)) ∧ Lim 2 h ∧ (lv h + lv g) % fp = lv f % fp ∧ Below w.heap.size w w' :=
 (sub_any f g hf hg w).mono fun _ _ ⟨h, he, hl, hv, hb⟩ => ⟨h, he, hl, by
   rw [Nat.add_mod, hv, ← Nat.add_mod, subF_lv hg, Nat.add_mul_mod_self_right], hb⟩
set_option maxHeartbeats 1000000 in
theorem neg_any (f : Nat → Nat) (hf : Lim 2 f) (w : World) :
   Calls Tryz.prog 65 #[.agg (ecell f)] w fun e w' => ∃ h, e = .returned (.agg (ecell h)) ∧ Lim 2 h ∧ (lv h + lv f) % fp = 0 ∧ Below w.heap.size w w' := by
 have hz := zeroE
 obtain ⟨W0, hW0⟩ : ∃ W, W = (w.alloc (.cells (ecell f) 56)).alloc (.cells z5 56) := ⟨_, rfl⟩
 have g0 : W0.heap[w.heap.size]? = some (.cells (ecell f) 56 (0, 0)) := by rw [hW0, heap_alloc_old _ _ (by simp)]; exact heap_alloc_new _ _
 have g1 : W0.heap[w.heap.size + 1]? = some (.cells (ecell f0) 56 (0, 0)) := by
   have := heap_alloc_new (w.alloc (.cells (ecell f) 56)) (.cells z5 56)
   rw [World.size_alloc] at this
   rw [hW0]; exact this
 have b0 : Below w.heap.size w W0 := by rw [hW0]; go_grown
 have G0 := Box.mk g0; have G1 := Box.mk g1; have B0 := Box.mk b0; have HF := Box.mk hf
 clear g0 g1 b0 hf
 go_enter Tryz.func65, Tryz.ntmps65
 go_upto_region 1 with (fail)
 rw [← hW0]
 clear hW0 hz
 go_wp2_with ((with_reducible refine wpList_loadE rfl (.tmp 1) rfl w.heap.size f G0.out ?_ ?_); rfl)
 refine (subm_any f0 f f0_lim.two HF.out _).mono ?_
 rintro e w2 ⟨h, rfl, hl, hv, hb⟩
 have g2 : w2.heap[w.heap.size + 1]? = some (.cells (ecell f0) 56 (0, 0)) := (hb.block _ (Array.getElem?_eq_some_iff.1 G1.out).1).trans G1.out
 have b2 := B0.out.trans (hb.mono B0.out.size)
 rw [f0_lv, Nat.zero_mod] at hv
 have G2 := Box.mk g2; have B2 := Box.mk b2; have HL := Box.mk hl; have HV := Box.mk hv
 clear g2 b2 hl hv hb
 go_wp2_with ((with_reducible refine wpList_storeE rfl (.tmp 2) (.tmp 5) rfl (w.heap.size + 1) h f0 G2.out ?_ ?_ ?_); rfl; rfl)
 go_frame
 refine bodyPost_ret (results_cell_row (p := 2) (ty := 56) rfl _ _ (w.heap.size + 1) 56 (ecell h) (0, 0) _ rfl (setRow_heap _ _ _ _ _ _ G2.out) Tryz.underlying56 rfl (by kernel_rfl)) rfl ⟨h, rfl, HL.out, HV.out, ?_⟩
 exact below_setRow B2.out (by omega) _
def oddB (n : Nat) : Bool := n % 2 == 1
set_option maxHeartbeats 1000000 in
theorem odd_any (f : Nat → Nat) (hf : Lim 0 f) (w : World) :
   Calls Tryz.prog 64 #[.agg (ecell f)] w fun e w' => e = .returned (.bool (oddB (lv f % fp))) ∧ Below w.heap.size w w' := by
 have g0 : (w.alloc (.cells (ecell f) 56)).heap[w.heap.size]? = some (.cells (ecell f) 56 (0, 0)) := heap_alloc_new _ _
 have G0 := Box.mk g0; have HF := Box.mk hf
 clear g0 hf
 go_enter Tryz.func64, Tryz.ntmps64
 go_wp2_with ((with_reducible refine wpList_loadE rfl (.tmp 1) rfl w.heap.size f G0.out ?_ ?_); rfl)
 refine (least_any f HF.out _).mono ?_
 rintro e w2 ⟨g, rfl, hl, hv, hb⟩
 have hb2 : Below w.heap.size w w2 := ((Below.refl _ _).alloc (Nat.le_refl _) _).trans (hb.mono (by simp))
 have hx : (lv f % fp) % 2 = g 0 % 2 := by rw [← hv, lv_eq]; omega
 have hodd : oddB (lv f % fp) = ((g 0 % 2 : Nat) == 1) := by unfold oddB; rw [hx]
 have hand : bits .and .u64 ((g 0 : Nat) : Int) 1 = ((g 0 % 2 : Nat) : Int) := by
   rw [show (1 : Int) = ((1 : Nat) : Int) from rfl, u64_and_nat _ _ (by have := hl.m3 (by omega) 0 (by omega); omega) (by decide), Nat.and_one_is_mod]
 obtain ⟨q, hq⟩ : ∃ q, q = g 0 % 2 := ⟨_, rfl⟩
 rw [← hq] at hodd hand
 have HB := Box.mk hb2; have HO := Box.mk hodd
 have hix : ∀ w, (Instr.index 56 (.agg (ecell g)) (.int .i64 0)).run Tryz.prog w = .ok (.int .u64 (g 0 : Nat)) w := fun _ => by kernel_rfl
 clear hb hb2 hx hodd hq hl hv
 go_wp2
 go_ret
 refine ⟨?_, HB.out⟩
 rw [HO.out]
 have e : ((q : Int) == 1) = (q == 1) := by rw [Bool.eq_iff_iff]; simp; omega
 show Ending.returned (Value.bool ((q : Int) == 1)) = _
 rw [e]
open Go Go.RowKit
def ncell (f : Nat → Nat) : Array Value := #[.int .i64 (f 0 : Nat), .int .i64 (f 1 : Nat), .int .i64 (f 2 : Nat), .int .i64 (f 3 : Nat), .int .i64 (f 4 : Nat), .int .i64 (f 5 : Nat), .int .i64 (f 6 : Nat), .int .i64 (f 7 : Nat), .int .i64 (f 8 : Nat), .int .i64 (f 9 : Nat), .int .i64 (f 10 : Nat), .int .i64 (f 11 : Nat), .int .i64 (f 12 : Nat), .int .i64 (f 13 : Nat), .int .i64 (f 14 : Nat), .int .i64 (f 15 : Nat)]
theorem ncell_get (f : Nat → Nat) (i : Nat) (hi : i < 16) : (ncell f)[i]? = some (.int .i64 (f i : Nat)) := by
 match i, hi with
 | 0, _ => rfl
 | 1, _ => rfl
 | 2, _ => rfl
 | 3, _ => rfl
 | 4, _ => rfl
 | 5, _ => rfl
 | 6, _ => rfl
 | 7, _ => rfl
 | 8, _ => rfl
 | 9, _ => rfl
 | 10, _ => rfl
 | 11, _ => rfl
 | 12, _ => rfl
 | 13, _ => rfl
 | 14, _ => rfl
 | 15, _ => rfl
 | n + 16, h => exact absurd h (by omega)
theorem ncell_set (f : Nat → Nat) (i : Nat) (hi : i < 16) (x : Nat) (y : Int) (hy : y = x) : (ncell f).setIfInBounds i (.int .i64 y) = ncell (upd f i x) := by
 subst hy
 match i, hi with
 | 0, _ => rfl
 | 1, _ => rfl
 | 2, _ => rfl
 | 3, _ => rfl
 | 4, _ => rfl
 | 5, _ => rfl
 | 6, _ => rfl
 | 7, _ => rfl
 | 8, _ => rfl
 | 9, _ => rfl
 | 10, _ => rfl
 | 11, _ => rfl
 | 12, _ => rfl
 | 13, _ => rfl
 | 14, _ => rfl
 | 15, _ => rfl
 | n + 16, h => exact absurd h (by omega)
theorem ncell_one (f : Nat → Nat) : (ncell f).all (·.oneCell') = true := by simp [ncell, Value.oneCell']
def dw (i : Nat) : Nat := 2 ^ (16 * i)
theorem dw_succ (i : Nat) : dw (i + 1) = dw i * 65536 := by unfold dw; rw [Nat.mul_add, Nat.pow_add]
theorem dw_pos (i : Nat) : 0 < dw i := Nat.two_pow_pos _
def pn (f : Nat → Nat) : Nat → Nat
 | 0 => 0
 | k + 1 => pn f k + dw k * f k
def nv (f : Nat → Nat) : Nat := pn f 16
def Dig (f : Nat → Nat) : Prop := ∀ j, j < 16 → f j < 65536
theorem pn_congr {f g : Nat → Nat} : ∀ k, (∀ j, j < k → f j = g j) → pn f k = pn g k
 | 0, _ => rfl
 | k + 1, h => by rw [pn, pn, pn_congr k (fun j hj => h j (by omega)), h k (by omega)]
theorem pn_upd_ge (f : Nat → Nat) (i x k : Nat) (h : k ≤ i) : pn (upd f i x) k = pn f k := pn_congr k fun j hj => upd_other _ _ _ _ (by omega)
theorem pn_upd (f : Nat → Nat) (i x : Nat) : ∀ k, i < k → pn (upd f i x) k + dw i * f i = pn f k + dw i * x
 | 0, h => by omega
 | k + 1, h => by
   rw [pn, pn]
   by_cases e : i = k
   · subst e; rw [pn_upd_ge _ _ _ _ (Nat.le_refl _), upd_same]; omega
   · rw [upd_other _ _ _ _ (fun h => e h.symm)]; have := pn_upd f i x k (by omega); omega
theorem nv_upd (f : Nat → Nat) (i x : Nat) (h : i < 16) : nv (upd f i x) + dw i * f i = nv f + dw i * x := pn_upd f i x 16 h
theorem pn_lt {f : Nat → Nat} : ∀ k, (∀ j, j < k → f j < 65536) → pn f k < dw k
 | 0, _ => by simp [pn, dw]
 | k + 1, h => by
   have h1 := pn_lt k (fun j hj => h j (by omega))
   have h2 := h k (by omega)
   rw [pn, dw_succ]
   have : dw k * f k + dw k ≤ dw k * 65536 := by
     have := Nat.mul_le_mul (Nat.le_refl (dw k)) (show f k + 1 ≤ 65536 by omega)
     rw [Nat.mul_add, Nat.mul_one] at this; exact this
   omega
theorem nv_lt {f : Nat → Nat} (h : Dig f) : nv f < dw 16 := pn_lt 16 h
theorem pn_above {f g : Nat → Nat} (i : Nat) : ∀ d, (∀ j, i ≤ j → j < i + d → f j = g j) → ∃ c, pn f (i + d) = pn f i + c ∧ pn g (i + d) = pn g i + c
 | 0, _ => ⟨0, rfl, rfl⟩
 | d + 1, h => by
   obtain ⟨c, h1, h2⟩ := pn_above i d (fun j a b => h j a (by omega))
   refine ⟨c + dw (i + d) * f (i + d), ?_, ?_⟩
   · rw [show i + (d + 1) = i + d + 1 from by omega, pn, h1]; omega
   · rw [show i + (d + 1) = i + d + 1 from by omega, pn, h2, h (i + d) (by omega) (by omega)]; omega
theorem nv_above {f g : Nat → Nat} (i : Nat) (hi : i ≤ 16) (h : ∀ j, i ≤ j → j < 16 → f j = g j) : ∃ c, nv f = pn f i + c ∧ nv g = pn g i + c := by
 have := pn_above (f := f) (g := g) i (16 - i) (fun j a b => h j a (by omega))
 rwa [show i + (16 - i) = 16 from by omega] at this
theorem nv_below {f g : Nat → Nat} (hf : Dig f) (hg : Dig g) (i : Nat) (hi : i < 16) (h : ∀ j, i < j → j < 16 → f j = g j) (hne : f i ≠ g i) : (nv f < nv g) ↔ f i < g i := by
 obtain ⟨c, h1, h2⟩ := nv_above (f := f) (g := g) (i + 1) (by omega) (fun j a b => h j (by omega) b)
 rw [pn] at h1 h2
 have a := pn_lt (f := f) i (fun j hj => hf j (by omega))
 have b := pn_lt (f := g) i (fun j hj => hg j (by omega))
 have key : ∀ x y : Nat, x < y → dw i * x + dw i ≤ dw i * y := fun x y hxy => by
   have := Nat.mul_le_mul (Nat.le_refl (dw i)) hxy
   rw [Nat.mul_succ] at this; exact this
 constructor
 · intro hlt
   rcases Nat.lt_or_gt_of_ne hne with hl | hl
   · exact hl
   · have := key _ _ hl; omega
 · intro hl
   have := key _ _ hl; omega
theorem nv_same {f g : Nat → Nat} (h : ∀ j, j < 16 → f j = g j) : nv f = nv g := pn_congr 16 h
structure Les (f g : Nat → Nat) (i : Nat) (h : Nat → Nat) (u : Nat) : Prop where
 low : ∀ j, j < i → h j < 65536
 up : ∀ j, i ≤ j → h j = f j
 bor : u ≤ 1
 val : pn h i + pn g i = pn f i + dw i * u
theorem Les.start (f g : Nat → Nat) : Les f g 0 f 0 := ⟨fun j hj => by omega, fun _ _ => rfl, by omega, by simp [pn]⟩
theorem Les.step {f g h : Nat → Nat} {i u : Nat} (l : Les f g i h u) (hf : f i < 65536) (hg : g i < 65536) (x v : Nat) (hv : v ≤ 1) (hx : x + g i + u = f i + 65536 * v) (hxb : x < 65536) : Les f g (i + 1) (upd h i x) v := by
 refine ⟨fun j hj => ?_, fun j hj => ?_, hv, ?_⟩
 · by_cases e : j = i
   · subst e; rw [upd_same]; exact hxb
   · rw [upd_other _ _ _ _ e]; exact l.low j (by omega)
 · rw [upd_other _ _ _ _ (by omega)]; exact l.up j (by omega)
 · rw [pn, pn, pn, pn_upd_ge _ _ _ _ (Nat.le_refl _), upd_same, dw_succ]
   have h1 := l.val
   have h2 : dw i * x + dw i * g i + dw i * u = dw i * f i + dw i * 65536 * v := by
     rw [← Nat.mul_add, ← Nat.mul_add, hx, Nat.mul_add, Nat.mul_assoc]
   omega
theorem Les.done {f g h : Nat → Nat} {u : Nat} (l : Les f g 16 h u) (hf : Dig f) (hle : nv g ≤ nv f) : Dig h ∧ nv h = nv f - nv g := by
 have h1 := l.val
 have h2 := nv_lt (f := h) l.low
 have hu : u = 0 := by
   rcases Nat.eq_zero_or_pos u with h0 | h0
   · exact h0
   · have hu1 : u = 1 := by have := l.bor; omega
     rw [hu1, Nat.mul_one] at h1
     unfold nv at h2 hle
     omega
 rw [hu, Nat.mul_zero, Nat.add_zero] at h1
 refine ⟨l.low, ?_⟩
 unfold nv at hle ⊢
 omega
structure Mds (f : Nat → Nat) (i : Nat) (h : Nat → Nat) (o : Nat) : Prop where
 low : ∀ j, j < i → h j < 65536
 up : ∀ j, i ≤ j → h j = f j
 val : pn h i + dw i * o = pn f i
theorem Mds.start (f : Nat → Nat) : Mds f 0 f 0 := ⟨fun j hj => by omega, fun _ _ => rfl, by simp [pn]⟩
theorem Mds.step {f h : Nat → Nat} {i o : Nat} (m : Mds f i h o) : Mds f (i + 1) (upd h i ((f i + o) % 65536)) ((f i + o) / 65536) := by
 refine ⟨fun j hj => ?_, fun j hj => ?_, ?_⟩
 · by_cases e : j = i
   · subst e; rw [upd_same]; omega
   · rw [upd_other _ _ _ _ e]; exact m.low j (by omega)
 · rw [upd_other _ _ _ _ (by omega)]; exact m.up j (by omega)
 · rw [pn, pn, pn_upd_ge _ _ _ _ (Nat.le_refl _), upd_same, dw_succ]
   have h1 := m.val
   have h3 := Nat.div_add_mod (f i + o) 65536
   generalize (f i + o) / 65536 = d at h3 ⊢
   generalize (f i + o) % 65536 = r at h3 ⊢
   have h2 : dw i * 65536 * d + dw i * r = dw i * f i + dw i * o := by rw [Nat.mul_assoc, ← Nat.mul_add, ← Nat.mul_add, h3]
   omega
theorem dw16 : dw 16 = 2 * fp + 38 := by
 have : dw 16 = 2 * 2 ^ 255 := by unfold dw; rw [← Nat.pow_succ']
 rw [this, fp_big]; omega
theorem Mds.done {f h : Nat → Nat} {o : Nat} (m : Mds f 16 h o) : nv (upd h 0 (h 0 + 38 * o)) % fp = nv f % fp ∧ nv (upd h 0 (h 0 + 38 * o)) + 2 * fp * o = nv f ∧ (o = 0 → Dig (upd h 0 (h 0 + 38 * o))) := by
 have h1 := nv_upd h 0 (h 0 + 38 * o) (by omega)
 have h2 := m.val
 rw [show dw 0 = 1 from rfl] at h1
 rw [dw16, Nat.add_mul] at h2
 have e : nv (upd h 0 (h 0 + 38 * o)) + 2 * fp * o = nv f := by unfold nv at h1 ⊢; omega
 refine ⟨?_, e, fun ho j hj => ?_⟩
 · rw [← e, Nat.mul_comm 2 fp, Nat.mul_assoc, Nat.add_mul_mod_self_left]
 · subst ho
   by_cases e : j = 0
   · subst e; rw [upd_same]; have := m.low 0 (by omega); omega
   · rw [upd_other _ _ _ _ e]; exact m.low j hj
open Go Go.RowKit
theorem wpList_loadN {ops : Array Oper} {rest : List Oper} {o : Oper} {a : Act} {w : World} {Q : Exit → Act → World → Prop} (hgd : o.guard = none) (x : Operand) (ho : o.op = .load 94 x)
   (g : Nat) (f : Nat → Nat) (hg : w.heap[g]? = some (.cells (ncell f) 94 (0, 0))) (hx : a.eval x = .pointer (some ⟨g, 0, none⟩))
   (h : wpList Tryz.prog ops Q rest (a.put o.dst (.agg (ncell f))) w) : wpList Tryz.prog ops Q (o :: rest) a w :=
 wpList_load_row hgd 94 x ho g hx 94 (ncell f) (0, 0) _ hg Tryz.underlying94 rfl (by kernel_rfl) h
theorem wpList_storeN {ops : Array Oper} {rest : List Oper} {o : Oper} {a : Act} {w : World} {Q : Exit → Act → World → Prop} (hgd : o.guard = none) (x y : Operand) (ho : o.op = .store 94 x y)
   (g : Nat) (f f0 : Nat → Nat) (hg : w.heap[g]? = some (.cells (ncell f0) 94 (0, 0))) (hx : a.eval x = .pointer (some ⟨g, 0, none⟩)) (hy : a.eval y = .agg (ncell f))
   (h : wpList Tryz.prog ops Q rest (a.put o.dst undef) (w.setRow g (ncell f))) : wpList Tryz.prog ops Q (o :: rest) a w :=
 wpList_store_row hgd 94 x y ho g (ncell f) hx hy 94 (ncell f0) hg (by kernel_rfl) rfl (ncell_one f) h
theorem zeroN (w : World) : (zeroValue 94).run Tryz.prog w = .ok (.agg (ncell f0)) w := by kernel_rfl
@[irreducible] def ltN (n m : Nat) : Bool := decide (n < m)
theorem ltN_eq (n m : Nat) : ltN n m = decide (n < m) := by unfold ltN; first | done | rfl
set_option maxRecDepth 100000 in
set_option maxHeartbeats 2000000 in
theorem below_any (f g : Nat → Nat) (hf : Dig f) (hg : Dig g) (w : World) :
   Calls Tryz.prog 129 #[.agg (ncell f), .agg (ncell g)] w fun e w' => e = .returned (.bool (ltN (nv f) (nv g))) ∧ Below w.heap.size w w' := by
 obtain ⟨W0, hW0⟩ : ∃ W, W = (w.alloc (.cells (ncell f) 94)).alloc (.cells (ncell g) 94) := ⟨_, rfl⟩
 have g0 : W0.heap[w.heap.size]? = some (.cells (ncell f) 94 (0, 0)) := by rw [hW0, heap_alloc_old _ _ (by simp)]; exact heap_alloc_new _ _
 have g1 : W0.heap[w.heap.size + 1]? = some (.cells (ncell g) 94 (0, 0)) := by
   have := heap_alloc_new (w.alloc (.cells (ncell f) 94)) (.cells (ncell g) 94)
   rw [World.size_alloc] at this
   rw [hW0]; exact this
 have b0 : Below w.heap.size w W0 := by rw [hW0]; go_grown
 have G0 := Box.mk g0; have G1 := Box.mk g1; have B0 := Box.mk b0; have HF := Box.mk hf; have HG := Box.mk hg
 clear g0 g1 b0 hf hg
 go_enter Tryz.func129, Tryz.ntmps129
 go_wp2_with fail
 rw [← hW0]
 clear hW0
 go_loopw [5] (fun i wr => ∃ m : Nat, m ≤ 16 ∧ i = .int .i64 ((m : Int) - 1) ∧ (∀ j, m ≤ j → j < 16 → f j = g j) ∧ wr.heap[w.heap.size]? = some (.cells (ncell f) 94 (0, 0)) ∧ wr.heap[w.heap.size + 1]? = some (.cells (ncell g) 94 (0, 0)) ∧ Below w.heap.size w wr) (fun i _ => (intOf i + 1).toNat)
 case atStart => exact ⟨16, by omega, rfl, fun j a b => by omega, G0.out, G1.out, B0.out⟩
 case round =>
   clear G0 G1 B0
   obtain ⟨m, hm, rfl, heq, ha, hb, hbel⟩ := hrel
   have HEQ := Box.mk heq; have HB := Box.mk hbel
   clear heq hbel
   rcases m with _ | k
   · have hs := nv_same (f := f) (g := g) (fun j hj => HEQ.out j (by omega) hj)
     have hl : ltN (nv f) (nv g) = false := by rw [ltN_eq, hs]; simp
     have HL := Box.mk hl
     clear ha hb hs hl
     go_wp2
     go_ret
     exact ⟨by rw [HL.out]; rfl, HB.out⟩
   · have hkI : (k : Int) < 16 := by omega
     rw [show ((k + 1 : Nat) : Int) - 1 = (k : Int) from by omega]
     have c0 : wr.cell? ⟨w.heap.size, k, none⟩ = some (.int .i64 (f k : Nat)) := by rw [cell_of_row _ _ _ _ _ _ ha]; exact ncell_get _ _ (by omega)
     have c1 : wr.cell? ⟨w.heap.size + 1, k, none⟩ = some (.int .i64 (g k : Nat)) := by rw [cell_of_row _ _ _ _ _ _ hb]; exact ncell_get _ _ (by omega)
     have HA := Box.mk ha; have HBB := Box.mk hb
     clear ha hb
     by_cases hne : f k = g k
     · have hneB : (((f k : Nat) : Int) != ((g k : Nat) : Int)) = false := by rw [hne]; simp
       have HNE := Box.mk hne
       clear hne
       go_wp2_with fail
       go_quiet (fail)
       go_wp2
       refine ⟨⟨k, by omega, rfl, fun j a b => ?_, HA.out, HBB.out, ?_⟩, by simp [intOf]⟩
       · rcases Nat.lt_or_ge k j with h | h
         · exact HEQ.out j h b
         · obtain rfl : j = k := by omega
           exact HNE.out
       · exact ⟨HB.out.os, HB.out.tape, HB.out.output, HB.out.size, HB.out.block⟩
     · have hneB : (((f k : Nat) : Int) != ((g k : Nat) : Int)) = true := by rw [bne_iff_ne]; omega
       have hlt := nv_below HF.out HG.out k (by omega) (fun j a b => HEQ.out j a b) hne
       have hl : ltN (nv f) (nv g) = decide (f k < g k) := by
         rw [ltN_eq]
         by_cases h : f k < g k
         · rw [decide_eq_true (hlt.2 h), decide_eq_true h]
         · rw [decide_eq_false (fun hh => h (hlt.1 hh)), decide_eq_false h]
       have HL := Box.mk hl
       clear hne hlt hl
       go_wp2_with fail
       go_quiet (fail)
       go_wp2_with fail
       go_quiet (fail)
       go_wp2
       go_ret
       exact ⟨by rw [HL.out]; rfl, ⟨HB.out.os, HB.out.tape, HB.out.output, HB.out.size, HB.out.block⟩⟩
set_option maxRecDepth 100000 in
set_option maxHeartbeats 2000000 in
theorem less_any (f g : Nat → Nat) (hf : Dig f) (hg : Dig g) (hle : nv g ≤ nv f) (w : World) :
   Calls Tryz.prog 112 #[.agg (ncell f), .agg (ncell g)] w fun e w' => ∃ h, e = .returned (.agg (ncell h)) ∧ Dig h ∧ nv h = nv f - nv g ∧ Below w.heap.size w w' := by
 have hz := zeroN
 obtain ⟨W0, hW0⟩ : ∃ W, W = ((w.alloc (.cells (ncell f) 94)).alloc (.cells (ncell g) 94)).alloc (.cells (ncell f0) 94) := ⟨_, rfl⟩
 have g0 : W0.heap[w.heap.size]? = some (.cells (ncell f) 94 (0, 0)) := by rw [hW0, heap_alloc_old _ _ (by simp; omega), heap_alloc_old _ _ (by simp)]; exact heap_alloc_new _ _
 have g1 : W0.heap[w.heap.size + 1]? = some (.cells (ncell g) 94 (0, 0)) := by
   have := heap_alloc_new (w.alloc (.cells (ncell f) 94)) (.cells (ncell g) 94)
   rw [World.size_alloc] at this
   rw [hW0, heap_alloc_old _ _ (by simp)]; exact this
 have g2 : W0.heap[w.heap.size + 2]? = some (.cells (ncell f0) 94 (0, 0)) := by
   have := heap_alloc_new ((w.alloc (.cells (ncell f) 94)).alloc (.cells (ncell g) 94)) (.cells (ncell f0) 94)
   rw [World.size_alloc, World.size_alloc] at this
   rw [hW0]; exact this
 have b0 : Below w.heap.size w W0 := by rw [hW0]; go_grown
 have G0 := Box.mk g0; have G1 := Box.mk g1; have G2 := Box.mk g2; have B0 := Box.mk b0; have HF := Box.mk hf; have HG := Box.mk hg; have HLE := Box.mk hle
 clear g0 g1 g2 b0 hf hg hle
 go_enter Tryz.func112, Tryz.ntmps112
 go_wp2_with fail
 rw [← hW0]
 clear hW0 hz
 go_loopw [5, 6, 7] (fun uv i _ wr => ∃ (k u : Nat) (h : Nat → Nat), k ≤ 16 ∧ i = .int .i64 k ∧ uv = .int .i64 u ∧ Les f g k h u ∧ wr.heap[w.heap.size]? = some (.cells (ncell h) 94 (0, 0)) ∧ wr.heap[w.heap.size + 1]? = some (.cells (ncell g) 94 (0, 0)) ∧ wr.heap[w.heap.size + 2]? = some (.cells (ncell f0) 94 (0, 0)) ∧ Below w.heap.size w wr) (fun _ i _ _ => (16 - intOf i).toNat)
 case atStart => exact ⟨0, 0, f, by omega, rfl, rfl, Les.start f g, G0.out, G1.out, G2.out, B0.out⟩
 case round =>
   clear G0 G1 G2 B0
   obtain ⟨k, u, h, hk, rfl, rfl, hles, ha, hb, hr, hbel⟩ := hrel
   by_cases hkl : k < 16
   · have hkI : (k : Int) < 16 := by omega
     have bf := HF.out k hkl
     have bg := HG.out k hkl
     have hup := hles.up k (Nat.le_refl _)
     have hbor := hles.bor
     have c0 : wr.cell? ⟨w.heap.size, k, none⟩ = some (.int .i64 (h k : Nat)) := by rw [cell_of_row _ _ _ _ _ _ ha]; exact ncell_get _ _ hkl
     have c1 : wr.cell? ⟨w.heap.size + 1, k, none⟩ = some (.int .i64 (g k : Nat)) := by rw [cell_of_row _ _ _ _ _ _ hb]; exact ncell_get _ _ hkl
     have z0 : ∀ o, wr.frozen? ⟨w.heap.size, o, none⟩ = false := fun o => frozen_of_row _ _ _ _ _ ha
     have z0 := z0 k
     have HSET := Box.mk (ncell_set h k hkl)
     rw [hup] at c0
     by_cases hneg : f k < g k + u
     case' pos =>
       obtain ⟨x, hx⟩ : ∃ x, x = f k + 65536 - g k - u := ⟨_, rfl⟩
       obtain ⟨v, hv⟩ : ∃ v, v = 1 := ⟨_, rfl⟩
       have hst := hles.step bf bg x v (by omega) (by omega) (by omega)
     case' neg =>
       obtain ⟨x, hx⟩ : ∃ x, x = f k - g k - u := ⟨_, rfl⟩
       obtain ⟨v, hv⟩ : ∃ v, v = 0 := ⟨_, rfl⟩
       have hst := hles.step bf bg x v (by omega) (by omega) (by omega)
     all_goals
       have HST := Box.mk hst; have HA := Box.mk ha; have HBB := Box.mk hb; have HR := Box.mk hr; have HBE := Box.mk hbel; have HV := Box.mk hv
       clear hst ha hb hr hbel hles hup hv
       obtain ⟨y, hy⟩ : ∃ y : Int, y = ((f k : Nat) : Int) - ((g k : Nat) : Int) - (u : Int) := ⟨_, rfl⟩
       have w1 : IntKind.i64.wrap (((f k : Nat) : Int) - ((g k : Nat) : Int)) = ((f k : Nat) : Int) - ((g k : Nat) : Int) := by rw [IntKind.wrap_i64]; omega
       have w2 : IntKind.i64.wrap (((f k : Nat) : Int) - ((g k : Nat) : Int) - (u : Int)) = y := by rw [IntKind.wrap_i64]; omega
     case pos =>
       have hyn : y < 0 := by omega
       have hyb : y + 65536 = (x : Int) := by omega
       have hylo : -65536 ≤ y := by omega
       clear hy hx hneg
       go_wp2_with fail
       go_quiet (fail)
       go_wp2_with fail
       refine ⟨⟨k + 1, 1, upd h k x, by omega, by go_num, rfl, (by have := HST.out; have e := HV.out; subst e; exact this), ?_, ?_, ?_, ?_⟩, by simp [intOf]; omega⟩
       · rw [heap_setCell_same _ _ _ _ _ _ (show (wr.drewN nq).heap[w.heap.size]? = _ from HA.out), HSET.out x _ rfl]
       · rw [heap_setCell_other _ _ _ _ (by simp)]; exact HBB.out
       · rw [heap_setCell_other _ _ _ _ (by simp)]; exact HR.out
       · exact Below.setCell (w := wr.drewN nq) (p := ⟨w.heap.size, k, none⟩) ⟨HBE.out.os, HBE.out.tape, HBE.out.output, HBE.out.size, HBE.out.block⟩ (Nat.le_refl _) _
     case neg =>
       have hyn : ¬ y < 0 := by omega
       have hyb : y = (x : Int) := by omega
       clear hy hx hneg
       subst hyb
       go_wp2_with fail
       go_quiet (fail)
       go_wp2_with fail
       refine ⟨⟨k + 1, 0, upd h k x, by omega, by go_num, rfl, (by have := HST.out; have e := HV.out; subst e; exact this), ?_, ?_, ?_, ?_⟩, by simp [intOf]; omega⟩
       · rw [heap_setCell_same _ _ _ _ _ _ (show (wr.drewN nq).heap[w.heap.size]? = _ from HA.out), HSET.out x _ rfl]
       · rw [heap_setCell_other _ _ _ _ (by simp)]; exact HBB.out
       · rw [heap_setCell_other _ _ _ _ (by simp)]; exact HR.out
       · exact Below.setCell (w := wr.drewN nq) (p := ⟨w.heap.size, k, none⟩) ⟨HBE.out.os, HBE.out.tape, HBE.out.output, HBE.out.size, HBE.out.block⟩ (Nat.le_refl _) _
   · obtain rfl : k = 16 := by omega
     obtain ⟨hd, hv⟩ := hles.done HF.out HLE.out
     have HA := Box.mk ha; have HR := Box.mk hr; have HBE := Box.mk hbel; have HD := Box.mk hd; have HV := Box.mk hv
     clear ha hb hr hbel hles hd hv
     go_wp2_with (first
       | ((with_reducible refine wpList_loadN rfl (.tmp 2) rfl w.heap.size h HA.out ?_ ?_); rfl)
       | ((with_reducible refine wpList_storeN rfl (.tmp 4) (.tmp 28) rfl (w.heap.size + 2) h f0 HR.out ?_ ?_ ?_); rfl; rfl))
     go_frame
     refine bodyPost_ret (results_cell_row (p := 4) (ty := 94) rfl _ _ (w.heap.size + 2) 94 (ncell h) (0, 0) _ rfl (setRow_heap _ _ _ _ _ _ HR.out) Tryz.underlying94 rfl (by kernel_rfl)) rfl ⟨h, rfl, HD.out, HV.out, ?_⟩
     exact below_setRow HBE.out (by omega) _
open Go Go.RowKit
def onesF (k : Nat) : Nat → Nat := fun j => if j < k then 65535 else 0
theorem onesF_step (k : Nat) : upd (onesF k) k 65535 = onesF (k + 1) := by
 funext j; simp only [upd, onesF]
 by_cases h : j = k
 · subst h; simp
 · rw [if_neg h]
   by_cases h2 : j < k
   · rw [if_pos h2, if_pos (by omega)]
   · rw [if_neg h2, if_neg (by omega)]
def pF : Nat → Nat := upd (upd (onesF 16) 0 65517) 15 32767
theorem pF_dig : Dig pF := fun j hj => by simp only [pF, upd, onesF]; split <;> (try split) <;> (try split) <;> omega
theorem pF_nv : nv pF = fp := by rw [fp_eq]; decide
set_option maxRecDepth 100000 in
set_option maxHeartbeats 2000000 in
theorem p_any (w : World) : Calls Tryz.prog 113 #[] w fun e w' => e = .returned (.agg (ncell pF)) ∧ Below w.heap.size w w' := by
 have hz := zeroN
 have h0 : ((w.alloc (.cells (ncell f0) 94)).alloc (.cells (ncell f0) 94)).heap[w.heap.size + 1]? = some (.cells (ncell f0) 94 (0, 0)) := by
   have := heap_alloc_new (w.alloc (.cells (ncell f0) 94)) (.cells (ncell f0) 94)
   rwa [World.size_alloc] at this
 have H0 := Box.mk h0
 have hr0 : ((w.alloc (.cells (ncell f0) 94)).alloc (.cells (ncell f0) 94)).heap[w.heap.size]? = some (.cells (ncell f0) 94 (0, 0)) := by
   rw [heap_alloc_old _ _ (by simp)]; exact heap_alloc_new _ _
 have HR0 := Box.mk hr0
 have hb0 : Below w.heap.size w ((w.alloc (.cells (ncell f0) 94)).alloc (.cells (ncell f0) 94)) := by go_grown
 have HB0 := Box.mk hb0
 clear h0 hr0 hb0
 obtain ⟨W1, hW1⟩ : ∃ W, W = ((w.alloc (.cells (ncell f0) 94)).alloc (.cells (ncell f0) 94)).setRow (w.heap.size + 1) (ncell f0) := ⟨_, rfl⟩
 have q0 : W1.heap[w.heap.size + 1]? = some (.cells (ncell (onesF 0)) 94 (0, 0)) := by rw [hW1]; exact setRow_heap _ _ _ _ _ _ H0.out
 have q1 : W1.heap[w.heap.size]? = some (.cells (ncell f0) 94 (0, 0)) := by rw [hW1, setRow_other _ _ _ _ (by omega)]; exact HR0.out
 have q2 : Below w.heap.size w W1 := by rw [hW1]; exact below_setRow HB0.out (by omega) _
 have Q0 := Box.mk q0; have Q1 := Box.mk q1; have Q2 := Box.mk q2
 clear q0 q1 q2
 go_enter Tryz.func113, Tryz.ntmps113
 go_upto_region 2 with ((with_reducible refine wpList_storeN rfl (.tmp 1) (.tmp 3) rfl (w.heap.size + 1) f0 f0 H0.out ?_ ?_ ?_); rfl; rfl)
 go_frame
 rw [← hW1]
 clear hW1 H0 HR0 HB0 hz
 go_wp2_with fail
 go_loopw [2] (fun i wr => ∃ k : Nat, k ≤ 16 ∧ i = .int .i64 k ∧ wr.heap[w.heap.size + 1]? = some (.cells (ncell (onesF k)) 94 (0, 0)) ∧ wr.heap[w.heap.size]? = some (.cells (ncell f0) 94 (0, 0)) ∧ Below w.heap.size w wr) (fun i _ => (16 - intOf i).toNat)
 case atStart => exact ⟨0, by omega, rfl, Q0.out, Q1.out, Q2.out⟩
 case round =>
   clear Q0 Q1 Q2
   obtain ⟨k, hk, rfl, ha, hr, hb⟩ := hrel
   by_cases hkl : k < 16
   · have hkI : (k : Int) < 16 := by omega
     have c0 : wr.cell? ⟨w.heap.size + 1, k, none⟩ = some (.int .i64 (onesF k k : Nat)) := by rw [cell_of_row _ _ _ _ _ _ ha]; exact ncell_get _ _ hkl
     have z0 : wr.frozen? ⟨w.heap.size + 1, k, none⟩ = false := frozen_of_row _ _ _ _ _ ha
     have HA := Box.mk ha; have HR := Box.mk hr; have HB := Box.mk hb
     clear ha hr hb
     go_wp2
     refine ⟨⟨k + 1, by omega, by go_num, ?_, ?_, HB.out.setCell (by simp) _⟩, by simp [intOf]; omega⟩
     · rw [heap_setCell_same _ _ _ _ _ _ HA.out, ncell_set _ _ hkl 65535 65535 rfl, onesF_step]
     · rw [heap_setCell_other _ _ _ _ (by simp)]; exact HR.out
   · obtain rfl : k = 16 := by omega
     have c0 : wr.cell? ⟨w.heap.size + 1, 0, none⟩ = some (.int .i64 (onesF 16 0 : Nat)) := by rw [cell_of_row _ _ _ _ _ _ ha]; exact ncell_get _ _ (by omega)
     have c1 : wr.cell? ⟨w.heap.size + 1, 15, none⟩ = some (.int .i64 (onesF 16 15 : Nat)) := by rw [cell_of_row _ _ _ _ _ _ ha]; exact ncell_get _ _ (by omega)
     have z0 : wr.frozen? ⟨w.heap.size + 1, 0, none⟩ = false := frozen_of_row _ _ _ _ _ ha
     have z1 : wr.frozen? ⟨w.heap.size + 1, 15, none⟩ = false := frozen_of_row _ _ _ _ _ ha
     obtain ⟨W2, hW2⟩ : ∃ W, W = (wr.setCell ⟨w.heap.size + 1, 0, none⟩ (.int .i64 65517)).setCell ⟨w.heap.size + 1, 15, none⟩ (.int .i64 32767) := ⟨_, rfl⟩
     have e0 : W2.heap[w.heap.size + 1]? = some (.cells (ncell pF) 94 (0, 0)) := by
       rw [hW2, heap_setCell_same _ _ _ _ _ _ (heap_setCell_same _ _ _ _ _ _ ha), ncell_set _ 0 (by omega) 65517 65517 rfl, ncell_set _ 15 (by omega) 32767 32767 rfl]; rfl
     have e1 : W2.heap[w.heap.size]? = some (.cells (ncell f0) 94 (0, 0)) := by
       rw [hW2, heap_setCell_other _ _ _ _ (by simp), heap_setCell_other _ _ _ _ (by simp)]; exact hr
     have e2 : Below w.heap.size w W2 := by rw [hW2]; exact (hb.setCell (by simp) _).setCell (by simp) _
     have E0 := Box.mk e0; have E1 := Box.mk e1; have E2 := Box.mk e2
     clear ha hr hb e0 e1 e2
     go_upto_region 8 with (fail)
     rw [← hW2]
     clear hW2 c0 c1 z0 z1
     go_wp2_with (first
       | ((with_reducible refine wpList_loadN rfl (.tmp 1) rfl (w.heap.size + 1) pF E0.out ?_ ?_); rfl)
       | ((with_reducible refine wpList_storeN rfl (.tmp 0) (.tmp 12) rfl w.heap.size pF f0 E1.out ?_ ?_ ?_); rfl; rfl))
     go_frame
     refine bodyPost_ret (results_cell_row (p := 0) (ty := 94) rfl _ _ w.heap.size 94 (ncell pF) (0, 0) _ rfl (setRow_heap _ _ _ _ _ _ E1.out) Tryz.underlying94 rfl (by kernel_rfl)) rfl ⟨rfl, ?_⟩
     exact below_setRow E2.out (Nat.le_refl _) _
end Go.Proofs.YtafhncpaoolljaaGreat.Fe
