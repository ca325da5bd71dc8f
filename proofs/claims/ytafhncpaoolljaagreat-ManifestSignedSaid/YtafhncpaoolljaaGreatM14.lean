/- The scalar package: the order, a number doubled, a difference. The scalar package: words of bytes. The scalar package: bytes of a number. The scalar package: the number of words modulo the order. The scalar package: plain laws of words that are set; Reduce; Is. The scalar package: Add. -/
import Derived.Test.YtafhncpaoolljaaGreatRows
import Derived.Test.YtafhncpaoolljaaGreatM01
import Derived.Test.YtafhncpaoolljaaGreatM13
import Derived.Deep.Cut
import Derived.Shelf.Bits.Mul64
namespace Go.Proofs.YtafhncpaoolljaaGreat
set_option maxRecDepth 100000
set_option linter.unusedVariables false
open Go Go.RowKit
def limbs (n : Nat) : Value := .agg #[.int .u64 (limb n 0), .int .u64 (limb n 1), .int .u64 (limb n 2), .int .u64 (limb n 3)]
theorem order_any (w : World) : Calls Tryz.prog 88 #[] w fun e w' => e = .returned (limbs ordL) ∧ Below w.heap.size w w' := by
 go_enter Tryz.func88, Tryz.ntmps88
 go_wp2
 go_returns
 refine ⟨?_, by go_grown⟩
 simp [limbs, limb, ordL]
theorem limbs_twice (n b : Nat) (hb : b ≤ 1) :
   limbs ((2 * n + b) % 2 ^ 256) = .agg #[.int .u64 (bits .or .u64 (IntKind.u64.wrap (limb n 0 * 2)) b), .int .u64 (bits .or .u64 (IntKind.u64.wrap (limb n 1 * 2)) (limb n 0 / 9223372036854775808)),
     .int .u64 (bits .or .u64 (IntKind.u64.wrap (limb n 2 * 2)) (limb n 1 / 9223372036854775808)), .int .u64 (bits .or .u64 (IntKind.u64.wrap (limb n 3 * 2)) (limb n 2 / 9223372036854775808))] := by
 have h0 := limb_bd n 0; have h1 := limb_bd n 1; have h2 := limb_bd n 2; have h3 := limb_bd n 3
 rw [or_bit _ _ h0 (by omega), or_bit _ _ h1 (by omega), or_bit _ _ h2 (by omega), or_bit _ _ h3 (by omega)]
 clear h0 h1 h2 h3
 unfold limbs limb
 refine agg4_congr ?_ ?_ ?_ ?_ <;> simp <;> omega
set_option maxRecDepth 100000 in
set_option maxHeartbeats 400000 in
theorem twice_any (n b : Nat) (hb : b ≤ 1) (w : World) : Calls Tryz.prog 89 #[limbs n, .int .u64 b] w fun e w' => e = .returned (limbs ((2 * n + b) % 2 ^ 256)) ∧ Below w.heap.size w w' := by
 have H := Box.mk (limbs_twice n b hb)
 unfold limbs at H ⊢
 generalize limb n 0 = a0 at H ⊢; generalize limb n 1 = a1 at H ⊢; generalize limb n 2 = a2 at H ⊢; generalize limb n 3 = a3 at H ⊢
 generalize (b : Int) = b at H ⊢
 go_enter Tryz.func89, Tryz.ntmps89
 go_wp2
 go_rounds 5
 go_returns
 exact ⟨congrArg _ H.out.symm, by go_grown⟩
@[irreducible] def dbl (n b : Nat) : Nat := (2 * n + b) % 2 ^ 256
@[irreducible] def dif (n m : Nat) : Nat := (n + 2 ^ 256 - m) % 2 ^ 256
theorem twice_int (n : Nat) (b : Int) (hb : 0 ≤ b ∧ b ≤ 1) (w : World) : Calls Tryz.prog 89 #[limbs n, .int .u64 b] w fun e w' => e = .returned (limbs (dbl n b.toNat)) ∧ Below w.heap.size w w' := by
 obtain ⟨b, rfl⟩ := Int.eq_ofNat_of_zero_le hb.1
 have := twice_any n b (by omega) w
 simpa only [dbl, Int.toNat_natCast] using this
theorem limbs_sum (n : Nat) (hn : n < 2 ^ 256) : (n : Int) = limb n 0 + 18446744073709551616 * limb n 1 + 340282366920938463463374607431768211456 * limb n 2 + 6277101735386680763835789423207666416102355444464034512896 * limb n 3 := by
 unfold limb; simp; omega
theorem limbs_of (n : Nat) (x0 x1 x2 x3 : Int) (b0 : 0 ≤ x0 ∧ x0 < 18446744073709551616) (b1 : 0 ≤ x1 ∧ x1 < 18446744073709551616) (b2 : 0 ≤ x2 ∧ x2 < 18446744073709551616) (b3 : 0 ≤ x3 ∧ x3 < 18446744073709551616)
   (h : (n : Int) = x0 + 18446744073709551616 * x1 + 340282366920938463463374607431768211456 * x2 + 6277101735386680763835789423207666416102355444464034512896 * x3) :
   .agg #[.int .u64 x0, .int .u64 x1, .int .u64 x2, .int .u64 x3] = limbs n := by
 unfold limbs limb
 refine agg4_congr ?_ ?_ ?_ ?_ <;> simp <;> omega
theorem limbs_less (n m : Nat) (hn : n < 2 ^ 256) (hm : m < 2 ^ 256) (d0 d1 d2 d3 c0 c1 c2 c3 : Int)
   (b0 : 0 ≤ d0 ∧ d0 < 18446744073709551616) (b1 : 0 ≤ d1 ∧ d1 < 18446744073709551616) (b2 : 0 ≤ d2 ∧ d2 < 18446744073709551616) (b3 : 0 ≤ d3 ∧ d3 < 18446744073709551616) (k3 : 0 ≤ c3 ∧ c3 ≤ 1)
   (h0 : d0 = limb n 0 - limb m 0 - 0 + 18446744073709551616 * c0) (h1 : d1 = limb n 1 - limb m 1 - c0 + 18446744073709551616 * c1)
   (h2 : d2 = limb n 2 - limb m 2 - c1 + 18446744073709551616 * c2) (h3 : d3 = limb n 3 - limb m 3 - c2 + 18446744073709551616 * c3) :
   .agg #[.int .u64 d0, .int .u64 d1, .int .u64 d2, .int .u64 d3] = limbs (dif n m) ∧ (c3 == 1) = decide (n < m) := by
 have e : d0 + 18446744073709551616 * d1 + 340282366920938463463374607431768211456 * d2 + 6277101735386680763835789423207666416102355444464034512896 * d3 = (n : Int) - m + 115792089237316195423570985008687907853269984665640564039457584007913129639936 * c3 := by
   rw [limbs_sum n hn, limbs_sum m hm, h0, h1, h2, h3]; omega
 clear h0 h1 h2 h3
 refine ⟨limbs_of _ _ _ _ _ b0 b1 b2 b3 ?_, ?_⟩
 · rw [e]; unfold dif; omega
 · rw [Bool.eq_iff_iff, beq_iff_eq, decide_eq_true_iff]; omega
set_option maxRecDepth 100000 in
set_option maxHeartbeats 400000 in
theorem less_any (n m : Nat) (hn : n < 2 ^ 256) (hm : m < 2 ^ 256) (w : World) : Calls Tryz.prog 90 #[limbs n, limbs m] w fun e w' => e = .returned (.tuple #[limbs (dif n m), .bool (decide (n < m))]) ∧ Below w.heap.size w w' := by
 have S := sub64_ex Tryz.prog 123 _ Tryz.func123 (by kernel_rfl) (by kernel_rfl) (by kernel_rfl) (by kernel_rfl)
 obtain ⟨d0, c0, r0, b0, k0, h0⟩ := S (limb n 0) (limb m 0) 0 (limb_bd _ _) (limb_bd _ _) (by omega)
 obtain ⟨d1, c1, r1, b1, k1, h1⟩ := S (limb n 1) (limb m 1) c0 (limb_bd _ _) (limb_bd _ _) k0
 obtain ⟨d2, c2, r2, b2, k2, h2⟩ := S (limb n 2) (limb m 2) c1 (limb_bd _ _) (limb_bd _ _) k1
 obtain ⟨d3, c3, r3, b3, k3, h3⟩ := S (limb n 3) (limb m 3) c2 (limb_bd _ _) (limb_bd _ _) k2
 have H := Box.mk (limbs_less n m hn hm d0 d1 d2 d3 c0 c1 c2 c3 b0 b1 b2 b3 k3 h0 h1 h2 h3)
 clear S b0 b1 b2 b3 k0 k1 k2 k3 h0 h1 h2 h3
 generalize hx : limbs (dif n m) = X at H ⊢
 generalize hy : decide (n < m) = Y at H ⊢
 clear hx hy
 unfold limbs
 go_enter Tryz.func90, Tryz.ntmps90
 go_wp2
 refine wp_loop_rounds 5 ?_
 iterate 4 (rw [rounds_succ]; go_wp2; go_region; go_wp2)
 rw [rounds_succ]; go_wp2
 go_returns
 refine ⟨?_, by go_grown⟩
 rw [← H.out.1, ← H.out.2]
open Go Go.RowKit
theorem words_any (s : ByteArray) (hs : s.size ≤ 64) (w : World) :
   Calls Tryz.prog 47 #[.string s] w fun e w' => ∃ b, w.heap.size ≤ b ∧ e = .returned (.slice (some ⟨b, 0, none⟩) 8 8) ∧ w'.heap[b]? = some (.cells (wcells (leNat s.data.toList) 8) 54 (0, 0)) ∧ Below w.heap.size w w' := by
 have hmk : ∀ w, (Instr.makeSlice 71 (.int .i64 8) (.int .i64 8)).run Tryz.prog w = .ok (.slice (some ⟨w.heap.size, 0, none⟩) 8 8) (w.alloc (.cells #[.int .u64 0, .int .u64 0, .int .u64 0, .int .u64 0, .int .u64 0, .int .u64 0, .int .u64 0, .int .u64 0] 54)) := fun _ => by kernel_rfl
 go_enter Tryz.func47, Tryz.ntmps47
 go_wp2
 go_loopw [8] (fun i wr => ∃ k : Nat, k ≤ s.size ∧ i = .int .i64 k ∧ wr.heap[w.heap.size]? = some (.cells (wcells (leNat (s.data.toList.take k)) 8) 54 (0, 0)) ∧ Below w.heap.size w wr) (fun i _ => s.size - (intOf i).toNat)
 case atStart => exact ⟨0, Nat.zero_le _, rfl, by rw [heap_alloc_new]; simp [wcells, leNat, limb, List.range, List.range.loop], by go_grown⟩
 case round =>
   obtain ⟨k, hk, rfl, hrow, hbel⟩ := hrel
   by_cases hlt : k < s.size
   · have hc : wr.cell? ⟨w.heap.size, k / 8, none⟩ = some (.int .u64 (limb (leNat (s.data.toList.take k)) (k / 8))) := by
       rw [cell_of_row _ _ _ _ _ _ hrow]; exact wcells_get _ _ _ (by omega)
     have hf : wr.frozen? ⟨w.heap.size, k / 8, none⟩ = false := by simp [World.frozen?, hrow]
     have hbd := limb_bd (leNat (s.data.toList.take k)) (k / 8)
     have HR := Box.mk hrow; clear hrow
     have HB := Box.mk hbel; clear hbel
     have hn : leNat (s.data.toList.take k) < 256 ^ k := by have := leNat_lt (s.data.toList.take k); rwa [List.length_take, Nat.min_eq_left (by simpa using hk)] at this
     obtain ⟨x, hx⟩ : ∃ x, x = limb (leNat (s.data.toList.take k)) (k / 8) := ⟨_, rfl⟩
     rw [← hx] at hc hbd
     have HX := Box.mk hx; clear hx
     go_wp2
     go_region
     go_wp2
     go_roundw
     case rel =>
       refine ⟨k + 1, by omega, by go_num, ?_, ?_⟩
       · rw [heap_drew, heap_setCell_same _ _ _ _ _ _ HR.out, take_snoc s k hlt, leNat_snoc, HX.out, word_or _ _ _ hn s[k].toNat_lt]
         rw [List.length_take, Nat.min_eq_left (by simpa using hk), wcells_step _ _ _ _ hn s[k].toNat_lt]
       · exact (HB.out.setCell (Nat.le_refl _) _).drew
     case measure => simp [intOf]; omega
   · have hk' : k = s.size := by omega
     subst hk'
     have HR := Box.mk hrow; clear hrow
     have HB := Box.mk hbel; clear hbel
     go_wp2
     go_returns
     refine ⟨w.heap.size, Nat.le_refl _, rfl, ?_, HB.out⟩
     rw [HR.out, List.take_of_length_le (by simp)]
open Go Go.RowKit
theorem limbs_wcells (n : Nat) : limbs n = .agg (wcells n 4) := by simp [limbs, wcells, List.range, List.range.loop]
set_option maxRecDepth 100000 in
set_option maxHeartbeats 400000 in
theorem bytes_any (n : Nat) (w : World) :
   Calls Tryz.prog 51 #[limbs n] w fun e w' => e = .returned (.string (sbytes n)) ∧ Below w.heap.size w w' := by
 have hmk : ∀ w, (Instr.makeSlice 29 (.int .i64 32) (.int .i64 32)).run Tryz.prog w = .ok (.slice (some ⟨w.heap.size, 0, none⟩) 32 32) (w.alloc (.cells (bcells 0 0 32) 5)) := fun _ => by kernel_rfl
 unfold limbs
 go_enter Tryz.func51, Tryz.ntmps51
 go_wp2
 go_loopw [8] (fun i wr => ∃ k : Nat, k ≤ 32 ∧ i = .int .i64 k ∧ wr.heap[w.heap.size]? = some (.cells (wcells n 4) 77 (0, 0)) ∧ wr.heap[w.heap.size + 1]? = some (.cells (bcells n k 32) 5 (0, 0)) ∧ Below w.heap.size w wr) (fun i _ => 32 - (intOf i).toNat)
 case atStart =>
   refine ⟨0, Nat.zero_le _, rfl, ?_, ?_, by go_grown⟩
   · rw [heap_alloc_old _ _ (by simp), heap_alloc_new]; simp [wcells, List.range, List.range.loop]
   · rw [show w.heap.size + 1 = (w.alloc (.cells #[.int .u64 (limb n 0), .int .u64 (limb n 1), .int .u64 (limb n 2), .int .u64 (limb n 3)] 77)).heap.size from by simp, heap_alloc_new]
     simp [bcells]
 case round =>
   obtain ⟨k, hk, rfl, hrow, hrow2, hbel⟩ := hrel
   by_cases hlt : k < 32
   · have hc : wr.cell? ⟨w.heap.size, k / 8, none⟩ = some (.int .u64 (limb n (k / 8))) := by
       rw [cell_of_row _ _ _ _ _ _ hrow]; exact wcells_get _ _ _ (by omega)
     have hc2 : wr.cell? ⟨w.heap.size + 1, k, none⟩ = some (.int .u8 ((if k < k then n / 256 ^ k % 256 else 0 : Nat) : Int)) := by
       rw [cell_of_row _ _ _ _ _ _ hrow2]; simp [bcells, hlt]
     have hf : wr.frozen? ⟨w.heap.size + 1, k, none⟩ = false := frozen_of_row _ _ _ _ _ hrow2
     have hbd := limb_bd n (k / 8)
     have HR := Box.mk hrow; clear hrow
     have HR2 := Box.mk hrow2; clear hrow2
     have HB := Box.mk hbel; clear hbel
     have HX := Box.mk (byte_of n k)
     generalize limb n (k / 8) = x at hc hbd HX
     go_wp2
     go_roundw
     case rel =>
       refine ⟨k + 1, by omega, by go_num, ?_, ?_, HB.out.setCell (by simp) _⟩
       · rw [heap_setCell_other _ _ _ _ (by simp)]; exact HR.out
       · rw [heap_setCell_same _ _ _ _ _ _ HR2.out, HX.out, bcells_step]
     case measure => simp [intOf]; omega
   · have hk' : k = 32 := by omega
     subst hk'
     rw [bcells_all] at hrow2
     have hcv := run_bytes_of_row Tryz.prog wr (w.heap.size + 1) 32 _ _ 29 9 5 32 (leList_length _ _) Tryz.underlying29 Tryz.underlying5 Tryz.underlying9 hrow2
     clear hrow hrow2
     have HB := Box.mk hbel; clear hbel
     go_wp2
     go_returns
     exact ⟨rfl, HB.out⟩
open Go Go.RowKit
def InWords (N c : Nat) : Prop := N < 2 ^ (64 * c)
theorem InWords.sum {x y k : Nat} (hk : 1 ≤ k) (hx : InWords x k) (hy : InWords y k) : InWords (x + y) (2 * k) := by
 unfold InWords at *
 have h1 : 2 ^ (64 * k) * 2 ^ 1 ≤ 2 ^ (64 * k) * 2 ^ (64 * k) := Nat.mul_le_mul_left _ (Nat.pow_le_pow_right (by omega) (by omega))
 rw [show 64 * (2 * k) = 64 * k + 64 * k from by omega, Nat.pow_add]
 omega
theorem InWords.mul {x y k : Nat} (hx : InWords x k) (hy : InWords y k) : InWords (x * y) (2 * k) := by
 unfold InWords at *
 rw [show 64 * (2 * k) = 64 * k + 64 * k from by omega, Nat.pow_add]
 exact Nat.mul_lt_mul'' hx hy
theorem InWords.mono {x k m : Nat} (h : InWords x k) (hm : k ≤ m) : InWords x m :=
 Nat.lt_of_lt_of_le h (Nat.pow_le_pow_right (by omega) (by omega))
theorem four {w : World} {b n : Nat} {t : TypeId} (h : w.heap[b]? = some (.cells (wcells n 4) t (0, 0))) :
   (w.cell? ⟨b, 0, none⟩ = some (.int .u64 (limb n 0)) ∧ w.cell? ⟨b, 1, none⟩ = some (.int .u64 (limb n 1)) ∧ w.cell? ⟨b, 2, none⟩ = some (.int .u64 (limb n 2)) ∧ w.cell? ⟨b, 3, none⟩ = some (.int .u64 (limb n 3))) ∧
   (w.frozen? ⟨b, 0, none⟩ = false ∧ w.frozen? ⟨b, 1, none⟩ = false ∧ w.frozen? ⟨b, 2, none⟩ = false ∧ w.frozen? ⟨b, 3, none⟩ = false) := by
 refine ⟨⟨?_, ?_, ?_, ?_⟩, frozen_of_row _ _ _ _ _ h, frozen_of_row _ _ _ _ _ h, frozen_of_row _ _ _ _ _ h, frozen_of_row _ _ _ _ _ h⟩ <;>
   (rw [cell_of_row _ _ _ _ _ _ h]; exact wcells_get _ _ _ (by omega))
structure ModSt (w : World) (P r : Nat) (wr : World) : Prop where
 r : wr.heap[w.heap.size + 1]? = some (.cells (wcells r 4) 77 (0, 0))
 l : wr.heap[P]? = some (.cells (wcells ordL 4) 77 (0, 0))
 o : ∃ z, wr.heap[w.heap.size]? = some (.cells (wcells z 4) 77 (0, 0))
 P : w.heap.size + 2 ≤ P
 below : Below w.heap.size w wr
def set4 (w : World) (b n : Nat) : World :=
 (((w.setCell ⟨b, 0, none⟩ (.int .u64 (limb n 0))).setCell ⟨b, 1, none⟩ (.int .u64 (limb n 1))).setCell ⟨b, 2, none⟩ (.int .u64 (limb n 2))).setCell ⟨b, 3, none⟩ (.int .u64 (limb n 3))
theorem set4_same {w : World} {b r : Nat} {t : TypeId} (n : Nat) (h : w.heap[b]? = some (.cells (wcells r 4) t (0, 0))) : (set4 w b n).heap[b]? = some (.cells (wcells n 4) t (0, 0)) := by
 have h1 := heap_setCell_same _ _ 0 _ _ (.int .u64 (limb n 0)) h
 have h2 := heap_setCell_same _ _ 1 _ _ (.int .u64 (limb n 1)) h1
 have h3 := heap_setCell_same _ _ 2 _ _ (.int .u64 (limb n 2)) h2
 have h4 := heap_setCell_same _ _ 3 _ _ (.int .u64 (limb n 3)) h3
 refine h4.trans ?_
 simp [wcells, List.range, List.range.loop]
theorem set4_other (w : World) (b n k : Nat) (h : k ≠ b) : (set4 w b n).heap[k]? = w.heap[k]? := by
 unfold set4
 rw [heap_setCell_other _ _ _ _ (by simpa using h), heap_setCell_other _ _ _ _ (by simpa using h), heap_setCell_other _ _ _ _ (by simpa using h), heap_setCell_other _ _ _ _ (by simpa using h)]
theorem set4_below {w wr : World} {b : Nat} (n : Nat) (h : Below w.heap.size w wr) (hb : w.heap.size ≤ b) : Below w.heap.size w (set4 wr b n) :=
 (((h.setCell hb _).setCell hb _).setCell hb _).setCell hb _
theorem ModSt.lt {w wr : World} {P r : Nat} (h : ModSt w P r wr) : P < wr.heap.size ∧ w.heap.size + 2 ≤ P := ⟨(Array.getElem?_eq_some_iff.1 h.l).1, h.P⟩
theorem ModSt.grow {w wr w1 : World} {P r : Nat} (h : ModSt w P r wr) (hb : Below wr.heap.size wr w1) : ModSt w P r w1 := by
 have := h.lt
 obtain ⟨z, hz⟩ := h.o
 exact ⟨(hb.block _ (by omega)).trans h.r, (hb.block _ (by omega)).trans h.l, ⟨z, (hb.block _ (by omega)).trans hz⟩, h.P, h.below.trans (hb.mono h.below.size)⟩
theorem ModSt.set {w wr : World} {P r : Nat} (h : ModSt w P r wr) (n : Nat) : ModSt w P n (set4 wr (w.heap.size + 1) n) := by
 have := h.lt
 obtain ⟨z, hz⟩ := h.o
 exact ⟨set4_same n h.r, by rw [set4_other _ _ _ _ (by omega)]; exact h.l, ⟨z, by rw [set4_other _ _ _ _ (by omega)]; exact hz⟩, h.P, set4_below n h.below (by omega)⟩
theorem bit_of (N j m : Nat) (hm : m < 64) : bits .and .u64 (limb N j / 2 ^ m) 1 = ((N / 2 ^ (64 * j + m) % 2 : Nat) : Int) := by
 unfold limb
 rw [Nat.pow_add, ← Nat.div_div_eq_div_mul]
 generalize N / 2 ^ (64 * j) = x
 have e : (18446744073709551616 : Nat) = 2 ^ m * 2 ^ (64 - m) := by rw [← Nat.pow_add, show m + (64 - m) = 64 from by omega]
 have h1 : ((x % 18446744073709551616 : Nat) : Int) / 2 ^ m = ((x / 2 ^ m % 2 ^ (64 - m) : Nat) : Int) := by
   rw [show ((2 : Int) ^ m) = ((2 ^ m : Nat) : Int) from by simp, ← Int.natCast_ediv, e, Nat.mod_mul_right_div_self]
 have h2 : x / 2 ^ m % 2 ^ (64 - m) < 2 ^ 64 := Nat.lt_of_lt_of_le (Nat.mod_lt _ (Nat.two_pow_pos _)) (Nat.pow_le_pow_right (by omega) (by omega))
 rw [h1, show (1 : Int) = ((1 : Nat) : Int) from rfl, u64_and_nat _ _ h2 (by omega), nat_mask1, Nat.mod_mod_of_dvd]
 exact ⟨2 ^ (64 - m - 1), by rw [← Nat.pow_succ']; congr 1; omega⟩
theorem mod_step (N m : Nat) (h : m ≥ 1) : (2 * (N / 2 ^ m % ordL) + N / 2 ^ (m - 1) % 2) % ordL = N / 2 ^ (m - 1) % ordL := by
 obtain ⟨k, rfl⟩ : ∃ k, m = k + 1 := ⟨m - 1, by omega⟩
 simp only [Nat.add_sub_cancel]
 rw [Nat.pow_succ, ← Nat.div_div_eq_div_mul]
 generalize N / 2 ^ k = x
 unfold ordL; omega
set_option maxRecDepth 100000 in
set_option maxHeartbeats 400000 in
theorem mod_any (N c b : Nat) (w : World) (hc : c ≤ 8) (hN : InWords N c) (hb : w.heap[b]? = some (.cells (wcells N c) 54 (0, 0))) :
   Calls Tryz.prog 50 #[.slice (some ⟨b, 0, none⟩) c c] w fun e w' => e = .returned (limbs (N % ordL)) ∧ Below w.heap.size w w' := by
 have hbB : b < w.heap.size := (Array.getElem?_eq_some_iff.1 hb).1
 have HB := Box.mk hb; clear hb
 have HN := Box.mk hN; clear hN
 go_enter Tryz.func50, Tryz.ntmps50
 go_wp2_with fail
 refine (order_any _).mono ?_; rintro e w1 ⟨rfl, hb1⟩
 obtain ⟨n0, n1, nb, hz1⟩ := two_new hb1
 clear hb1
 rw [limbs_wcells]
 have hl : wcells ordL 4 = #[.int .u64 (limb ordL 0), .int .u64 (limb ordL 1), .int .u64 (limb ordL 2), .int .u64 (limb ordL 3)] := by simp [wcells, List.range, List.range.loop]
 have h00 : wcells 0 4 = #[.int .u64 0, .int .u64 0, .int .u64 0, .int .u64 0] := by simp [wcells, List.range, List.range.loop, limb]
 have hst : ModSt w w1.heap.size 0 (w1.alloc (.cells (wcells ordL 4) 77 (0, 0))) := by
   refine ⟨?_, ?_, ⟨0, ?_⟩, by omega, ?_⟩
   · rw [heap_alloc_old _ _ (by omega), n1, h00]
   · rw [heap_alloc_new]
   · rw [heap_alloc_old _ _ (by omega), n0, h00]
   · exact nb.alloc (by omega) _
 generalize hP : w1.heap.size = P at hst
 rw [hl] at hst ⊢
 have HS := Box.mk hst; clear hst
 clear nb n0 n1 hl h00
 go_wp2_with fail
 clear hP hz1
 generalize (w1.alloc _) = w2 at HS ⊢
 go_loopw [5] (fun i wr => ∃ j : Nat, j ≤ c ∧ i = .int .i64 ((j : Int) - 1) ∧ ModSt w P (N / 2 ^ (64 * j) % ordL) wr) (fun i _ => (intOf i + 1).toNat)
 case atStart => exact ⟨c, Nat.le_refl _, rfl, by rw [Nat.div_eq_of_lt (HN.out : N < 2 ^ (64 * c))]; exact HS.out⟩
 case round =>
   obtain ⟨j, hj, rfl, hs⟩ := hrel
   have HS := Box.mk hs; clear hs
   rcases j with _ | j
   · obtain ⟨⟨r0, r1, r2, r3⟩, _⟩ := four HS.out.r
     obtain ⟨z, hz⟩ := HS.out.o
     obtain ⟨⟨o0, o1, o2, o3⟩, f0, f1, f2, f3⟩ := four hz
     clear hz
     go_wp2
     refine bodyPost_ret (v := limbs (N % ordL)) (by simp [results, Tryz.results50, go_sem, o0, o1, o2, o3]; rfl) rfl ?_
     refine ⟨rfl, ?_⟩
     exact (((HS.out.below.setCell (Nat.le_refl _) _).setCell (Nat.le_refl _) _).setCell (Nat.le_refl _) _).setCell (Nat.le_refl _) _
   · rw [show ((j + 1 : Nat) : Int) - 1 = (j : Int) from by omega]
     go_wp2_with fail
     go_loopw [6] (fun i wr => ∃ m : Nat, m ≤ 64 ∧ i = .int .i64 ((m : Int) - 1) ∧ ModSt w P (N / 2 ^ (64 * j + m) % ordL) wr) (fun i _ => (intOf i + 1).toNat)
     case atStart => exact ⟨64, Nat.le_refl _, rfl, by rw [show 64 * j + 64 = 64 * (j + 1) from by omega]; exact HS.out⟩
     case round =>
       obtain ⟨m, hm, rfl, hs⟩ := hrel
       have HS1 := Box.mk hs; clear hs
       clear HS
       rcases m with _ | m
       · go_wp2_with fail
         exact ⟨⟨j, by omega, rfl, HS1.out⟩, by simp [intOf]⟩
       · rw [show ((m + 1 : Nat) : Int) - 1 = (m : Int) from by omega]
         have hword : wr.cell? ⟨b, j, none⟩ = some (.int .u64 (limb N j)) := by
           rw [HS1.out.below.cell hbB, cell_of_row _ _ _ _ _ _ HB.out]; exact wcells_get _ _ _ (by omega)
         have hlb := limb_bd N j
         obtain ⟨⟨r0, r1, r2, r3⟩, f0, f1, f2, f3⟩ := four HS1.out.r
         go_wp2_with fail
         have hj' : (j : Int) < (c : Int) := by omega
         have hm0 : m < 64 := by omega
         generalize hX : N / 2 ^ (64 * j + (m + 1)) % ordL = X at r0 r1 r2 r3
         have HX := Box.mk hX; clear hX
         generalize hY : limb N j = Y at hword hlb
         have HY := Box.mk hY; clear hY
         have hbe : bits .and .u64 (Y / 2 ^ m) 1 = ((N / 2 ^ (64 * j + m) % 2 : Nat) : Int) := by rw [← HY.out, bit_of N j m hm0]
         have hbit : 0 ≤ bits .and .u64 (Y / 2 ^ m) 1 ∧ bits .and .u64 (Y / 2 ^ m) 1 ≤ 1 := by rw [hbe]; omega
         have hlt := HS1.out.lt
         generalize hbt : bits .and .u64 (Y / 2 ^ m) 1 = bt at hbit hbe
         have HBE := Box.mk hbe; clear hbe
         go_still_tail 8, (by kernel_rfl)
         change wpList _ _ _ _ _ wr.drew
         go_wp2_with fail
         refine (twice_int X bt hbit _).mono ?_
         rintro e w1 ⟨rfl, hb1⟩
         have HS2 := Box.mk (HS1.out.grow ((Below.refl _ _).drew.trans hb1))
         obtain ⟨⟨r0', r1', r2', r3'⟩, f0', f1', f2', f3'⟩ := four HS2.out.r
         clear hb1
         unfold limbs
         go_upto_region 10 with (fail)
         generalize hw2 : World.setCell (World.setCell (World.setCell (World.setCell w1 _ _) _ _) _ _) _ _ = w2
         have HS3 : Box (ModSt w P (dbl X bt.toNat) w2) := by rw [← hw2]; exact ⟨HS2.out.set _⟩
         have HV : Box (dbl X bt.toNat % ordL = N / 2 ^ (64 * j + m) % ordL ∧ dbl X bt.toNat < 2 * ordL) := Box.mk <| by
           have hX1 : X < ordL := by rw [← HX.out]; exact Nat.mod_lt _ (by unfold ordL; omega)
           have hs := mod_step N (64 * j + (m + 1)) (by omega)
           rw [HX.out, show 64 * j + (m + 1) - 1 = 64 * j + m from by omega] at hs
           have hd : dbl X bt.toNat = 2 * X + N / 2 ^ (64 * j + m) % 2 := by
             rw [HBE.out, Int.toNat_natCast]
             unfold dbl; unfold ordL at hX1; omega
           rw [hd]
           exact ⟨hs, by omega⟩
         clear hw2 HS2 hbit hbt hlb hlt hword r0 r1 r2 r3 f0 f1 f2 f3 r0' r1' r2' r3' f0' f1' f2' f3'
         generalize dbl X bt.toNat = V at HS3 HV ⊢
         obtain ⟨⟨r0, r1, r2, r3⟩, f0, f1, f2, f3⟩ := four HS3.out.r
         obtain ⟨⟨l0, l1, l2, l3⟩, _⟩ := four HS3.out.l
         have hlt := HS3.out.lt
         go_wp2_with fail
         refine (less_any V ordL ?_ ?_ _).mono ?_
         · have := HV.out.2; unfold ordL at this; omega
         · unfold ordL; omega
         rintro e w3 ⟨rfl, hb3⟩
         have HS4 := Box.mk (HS3.out.grow hb3)
         obtain ⟨⟨r0', r1', r2', r3'⟩, f0', f1', f2', f3'⟩ := four HS4.out.r
         have hz3 := hb3.size
         clear hb3
         have hz4 : w.heap.size + 1 < w3.heap.size := by have := HS4.out.lt; omega
         by_cases hd : V < ordL
         · rw [decide_eq_true hd]
           unfold limbs
           go_wp2
           refine ⟨⟨m, by omega, rfl, ?_⟩, by simp [intOf]⟩
           rw [← HV.out.1, Nat.mod_eq_of_lt hd]
           exact HS4.out.grow ((Below.refl _ _).alloc (Nat.le_refl _) _)
         · rw [decide_eq_false hd]
           unfold limbs
           go_wp2
           refine ⟨⟨m, by omega, rfl, ?_⟩, by simp [intOf]⟩
           have hV := HV.out.2
           have e : N / 2 ^ (64 * j + m) % ordL = dif V ordL := by
             rw [← HV.out.1]; unfold dif; unfold ordL at hd hV ⊢; omega
           rw [e]
           exact (HS4.out.set (dif V ordL)).grow ((Below.refl _ _).alloc (Nat.le_refl _) _)
open Go Go.RowKit
def put (O j v : Nat) : Nat := O - O / 2 ^ (64 * j) % 18446744073709551616 * 2 ^ (64 * j) + v * 2 ^ (64 * j)
theorem limb_split (lo j v hi i : Nat) (hlo : lo < 2 ^ (64 * j)) (hv : v < 18446744073709551616) :
   limb (lo + 2 ^ (64 * j) * (v + 18446744073709551616 * hi)) i = if i < j then limb lo i else if i = j then (v : Int) else limb hi (i - j - 1) := by
 unfold limb
 split
 · rename_i h
   obtain ⟨d, hd⟩ : ∃ d, 64 * j = 64 * i + (64 + d) := ⟨64 * (j - i - 1), by omega⟩
   congr 1
   rw [hd, Nat.pow_add, Nat.pow_add]
   rw [show lo + 2 ^ (64 * i) * (2 ^ 64 * 2 ^ d) * (v + 18446744073709551616 * hi) = lo + 2 ^ (64 * i) * (2 ^ 64 * (2 ^ d * (v + 18446744073709551616 * hi))) from by simp only [Nat.mul_assoc]]
   rw [Nat.add_mul_div_left _ _ (Nat.two_pow_pos _)]
   omega
 · split
   · rename_i h; subst h
     rw [Nat.add_mul_div_left _ _ (Nat.two_pow_pos _), Nat.div_eq_of_lt hlo]
     omega
   · rename_i h1 h2
     congr 1
     obtain ⟨d, hd⟩ : ∃ d, i = j + 1 + d := ⟨i - j - 1, by omega⟩
     subst hd
     rw [show j + 1 + d - j - 1 = d from by omega, show 64 * (j + 1 + d) = 64 * j + (64 + 64 * d) from by omega, Nat.pow_add, ← Nat.div_div_eq_div_mul, Nat.add_mul_div_left _ _ (Nat.two_pow_pos _), Nat.div_eq_of_lt hlo, Nat.pow_add, ← Nat.div_div_eq_div_mul]
     congr 2; omega
theorem split_at (O j : Nat) : O = O % 2 ^ (64 * j) + 2 ^ (64 * j) * (O / 2 ^ (64 * j) % 18446744073709551616 + 18446744073709551616 * (O / 2 ^ (64 * j) / 18446744073709551616)) := by
 have h1 := Nat.div_add_mod O (2 ^ (64 * j))
 have h2 := Nat.div_add_mod (O / 2 ^ (64 * j)) 18446744073709551616
 rw [Nat.add_comm (_ % 18446744073709551616), h2]; omega
theorem put_eq (O j v : Nat) : put O j v = O % 2 ^ (64 * j) + 2 ^ (64 * j) * (v + 18446744073709551616 * (O / 2 ^ (64 * j) / 18446744073709551616)) := by
 have h := split_at O j
 unfold put
 generalize O % 2 ^ (64 * j) = lo at h ⊢
 generalize hm : O / 2 ^ (64 * j) % 18446744073709551616 = mid at h ⊢
 generalize O / 2 ^ (64 * j) / 18446744073709551616 = hi at h ⊢
 rw [Nat.mul_add] at h ⊢
 rw [Nat.mul_comm mid, Nat.mul_comm v]; omega
theorem wcells_put (O c j v : Nat) (hv : v < 18446744073709551616) : (wcells O c).setIfInBounds j (.int .u64 (v : Int)) = wcells (put O j v) c := by
 apply Array.ext
 · simp [wcells]
 · intro i h1 h2
   rw [Array.getElem_setIfInBounds (by simpa using h1)]
   simp only [wcells, List.getElem_toArray, List.getElem_map, List.getElem_range]
   have hlo : O % 2 ^ (64 * j) < 2 ^ (64 * j) := Nat.mod_lt _ (Nat.two_pow_pos _)
   rw [put_eq, limb_split _ _ _ _ _ hlo hv]
   split
   · rename_i h; subst h; simp
   · rename_i h
     have := limb_split _ j (O / 2 ^ (64 * j) % 18446744073709551616) (O / 2 ^ (64 * j) / 18446744073709551616) i hlo (Nat.mod_lt _ (by omega))
     rw [← split_at O j] at this
     rw [this, if_neg (by omega : ¬ i = j), if_neg (by omega : ¬ i = j)]
theorem put_add (O j v : Nat) : put O j v + O / 2 ^ (64 * j) % 18446744073709551616 * 2 ^ (64 * j) = O + v * 2 ^ (64 * j) := by
 have h := split_at O j
 rw [put_eq]
 generalize O % 2 ^ (64 * j) = lo at h ⊢
 generalize O / 2 ^ (64 * j) / 18446744073709551616 = hi at h ⊢
 generalize O / 2 ^ (64 * j) % 18446744073709551616 = mid at h ⊢
 rw [Nat.mul_add] at h ⊢
 rw [Nat.mul_comm v, Nat.mul_comm mid]; omega
theorem num_in (s : ByteArray) (c : Nat) (h : s.size ≤ 8 * c) : InWords (num s) c := num_lt s c h
set_option maxRecDepth 100000 in
set_option maxHeartbeats 400000 in
theorem reduce_any (s : ByteArray) (w : World) :
   Calls Tryz.prog 45 #[.string s] w fun e w' => e = .returned (if s.size ≤ 64 then .tuple #[.string (sc (num s)), .int .i64 0] else .tuple #[.string ⟨#[]⟩, .int .i64 50]) ∧ Below w.heap.size w w' := by
 by_cases h : s.size ≤ 64
 · rw [if_pos h]
   go_enter Tryz.func45, Tryz.ntmps45
   go_wp2_with fail
   refine (words_any s h _).mono ?_
   rintro e w1 ⟨b, hb, rfl, hrow, hb1⟩
   go_wp2_with fail
   refine (mod_any (num s) 8 b _ (by omega) (num_in s 8 (by omega)) hrow).mono ?_
   rintro e w2 ⟨rfl, hb2⟩
   go_wp2_with fail
   refine (bytes_any _ _).mono ?_
   rintro e w3 ⟨rfl, hb3⟩
   go_wp2
   go_ret2
   exact ⟨rfl, hb1.trans ((hb2.mono hb1.size).trans (hb3.mono (Nat.le_trans hb1.size hb2.size)))⟩
 · rw [if_neg h]
   go_enter Tryz.func45, Tryz.ntmps45
   go_wp2
   go_ret2
   exact ⟨rfl, Below.refl _ _⟩
set_option maxRecDepth 100000 in
set_option maxHeartbeats 400000 in
theorem is_any (s : ByteArray) (w : World) :
   Calls Tryz.prog 35 #[.string s] w fun e w' => e = .returned (.bool (decide (s.size = 32 ∧ num s < ordL))) ∧ Below w.heap.size w w' := by
 by_cases h : s.size = 32
 · have h' : ((s.size : Int) == 32) = true := by rw [beq_iff_eq]; omega
   have H := Box.mk h; clear h
   go_enter Tryz.func35, Tryz.ntmps35
   go_wp2_with fail
   refine (words_any s (by have := H.out; omega) _).mono ?_
   rintro e w1 ⟨b, hb, rfl, hrow, hb1⟩
   go_wp2_with fail
   refine (mod_any (num s) 8 b _ (by omega) (num_in s 8 (by have := H.out; omega)) hrow).mono ?_
   rintro e w2 ⟨rfl, hb2⟩
   go_wp2_with fail
   refine (bytes_any _ _).mono ?_
   rintro e w3 ⟨rfl, hb3⟩
   go_wp2
   go_ret
   refine ⟨?_, hb1.trans ((hb2.mono hb1.size).trans (hb3.mono (Nat.le_trans hb1.size hb2.size)))⟩
   show Ending.returned (Value.bool ((sc (num s)).toList == s.toList)) = _
   rw [beq_toList]
   simp only [sc_num H.out, H.out, true_and]
 · have h' : ((s.size : Int) == 32) = false := by rw [beq_eq_false_iff_ne]; omega
   have H := Box.mk h; clear h
   go_enter Tryz.func35, Tryz.ntmps35
   go_wp2
   go_ret
   refine ⟨?_, Below.refl _ _⟩
   rw [decide_eq_false (fun h => H.out h.1)]; rfl
theorem mul64_any (x y : Nat) (hx : x < 18446744073709551616) (hy : y < 18446744073709551616) (w : World) :
   Calls Tryz.prog 48 #[.int .u64 x, .int .u64 y] w fun e w' => e = .returned (.tuple #[.int .u64 ((x * y / 18446744073709551616 : Nat) : Int), .int .u64 ((x * y % 18446744073709551616 : Nat) : Int)]) ∧ w' = w := by
 obtain ⟨bd, bt, bw, hhi⟩ := Lib.mul64_hi x y hx hy
 have ba := Lib.half_mul_le (a := x / 4294967296) (b := y / 4294967296) (by omega) (by omega)
 have bb := Lib.half_mul_le (a := x / 4294967296) (b := y % 4294967296) (by omega) (by omega)
 have bc := Lib.half_mul_le (a := x % 4294967296) (b := y / 4294967296) (by omega) (by omega)
 have b1 : x / 4294967296 * (y / 4294967296) < 18446744073709551616 := by omega
 have b2 : x / 4294967296 * (y % 4294967296) < 18446744073709551616 := by omega
 have b3 : x % 4294967296 * (y / 4294967296) < 18446744073709551616 := by omega
 have b4 : x / 4294967296 * (y / 4294967296) + (x / 4294967296 * (y % 4294967296) + x % 4294967296 * (y % 4294967296) / 4294967296) / 4294967296 < 18446744073709551616 := by omega
 have b5 : x / 4294967296 * (y / 4294967296) + (x / 4294967296 * (y % 4294967296) + x % 4294967296 * (y % 4294967296) / 4294967296) / 4294967296 + ((x / 4294967296 * (y % 4294967296) + x % 4294967296 * (y % 4294967296) / 4294967296) % 4294967296 + x % 4294967296 * (y / 4294967296)) / 4294967296 < 18446744073709551616 := by omega
 go_enter Tryz.func48, Tryz.ntmps48
 go_wp2
 simp only [Mul64.maskN x hx, Mul64.maskN y hy, Mul64.divN, Mul64.mulN, Mul64.addN, Mul64.wrapN _ bd, Mul64.wrapN _ b2, Mul64.wrapN _ bt, Mul64.maskN _ bt, Mul64.wrapN _ b3, Mul64.wrapN _ bw, Mul64.wrapN _ b1, Mul64.wrapN _ b4, Mul64.wrapN _ b5, Mul64.wrapM (x * y)]
 rw [hhi]
 go_ret2
 exact ⟨rfl, rfl⟩
open Go Go.RowKit
structure AddSt (w : World) (bx b2 X Y k : Nat) (o : Int) (wr : World) : Prop where
 x : ∃ O, wr.heap[bx]? = some (.cells (wcells O 8) 54 (0, 0)) ∧ O + o.toNat * 2 ^ (64 * k) = X + Y % 2 ^ (64 * k)
 y : wr.heap[b2]? = some (.cells (wcells Y 8) 54 (0, 0))
 o : 0 ≤ o ∧ o ≤ 1
 below : Below w.heap.size w wr
theorem limb_toNat (n i : Nat) : limb n i = ((n / 2 ^ (64 * i) % 18446744073709551616 : Nat) : Int) := by unfold limb; rfl
theorem AddSt.step {w wr : World} {bx b2 X Y k : Nat} {o s c : Int} {O : Nat} (h2 : wr.heap[b2]? = some (.cells (wcells Y 8) 54 (0, 0))) (h1 : wr.heap[bx]? = some (.cells (wcells O 8) 54 (0, 0)))
   (hO : O + o.toNat * 2 ^ (64 * k) = X + Y % 2 ^ (64 * k)) (ho : 0 ≤ o ∧ o ≤ 1) (hb : Below w.heap.size w wr) (hne : bx ≠ b2) (hw : w.heap.size ≤ bx)
   (hs : 0 ≤ s ∧ s < 18446744073709551616) (hc : 0 ≤ c ∧ c ≤ 1) (he : s + 18446744073709551616 * c = limb O k + limb Y k + o) :
   AddSt w bx b2 X Y (k + 1) c (wr.setCell ⟨bx, k, none⟩ (.int .u64 s)).drew := by
 obtain ⟨s, rfl⟩ := Int.eq_ofNat_of_zero_le hs.1
 refine ⟨⟨put O k s, ?_, ?_⟩, ?_, hc, (hb.setCell hw _).drew⟩
 · rw [heap_drew, heap_setCell_same _ _ _ _ _ _ h1, wcells_put _ _ _ _ (by omega)]
 · have h := put_add O k s
   rw [limb_toNat, limb_toNat] at he
   obtain ⟨o, rfl⟩ := Int.eq_ofNat_of_zero_le ho.1
   obtain ⟨c, rfl⟩ := Int.eq_ofNat_of_zero_le hc.1
   have hm : Y % 2 ^ (64 * (k + 1)) = Y % 2 ^ (64 * k) + 2 ^ (64 * k) * (Y / 2 ^ (64 * k) % 18446744073709551616) := by
     rw [show 64 * (k + 1) = 64 * k + 64 from by omega, Nat.pow_add, Nat.mod_mul]
   rw [hm, show 64 * (k + 1) = 64 * k + 64 from by omega, Nat.pow_add]
   simp only [Int.toNat_natCast] at hO ⊢
   have he' : s + 18446744073709551616 * c = O / 2 ^ (64 * k) % 18446744073709551616 + Y / 2 ^ (64 * k) % 18446744073709551616 + o := by omega
   generalize O / 2 ^ (64 * k) % 18446744073709551616 = p at he' h
   generalize Y / 2 ^ (64 * k) % 18446744073709551616 = q at he' ⊢
   generalize Y % 2 ^ (64 * k) = t at hO ⊢
   generalize 2 ^ (64 * k) = K at h hO ⊢
   have h3 : (s + 18446744073709551616 * c) * K = (p + q + o) * K := by rw [he']
   simp only [Nat.add_mul] at h3
   rw [Nat.mul_comm K q]
   have : c * (K * 2 ^ 64) = 18446744073709551616 * c * K := by rw [Nat.mul_comm K, ← Nat.mul_assoc, Nat.mul_comm c]
   omega
 · rw [heap_drew, heap_setCell_other _ _ _ _ (by simpa using hne.symm)]; exact h2
theorem add_end {O z X Y k : Nat} (h : O + z * 2 ^ (64 * k) = X + Y % 2 ^ (64 * k)) (hs : InWords (X + Y) k) (hY : InWords Y k) : O = X + Y := by
 unfold InWords at hs hY
 rw [Nat.mod_eq_of_lt hY] at h
 rcases Nat.eq_zero_or_pos z with hz | hz
 · rw [hz, Nat.zero_mul, Nat.add_zero] at h; exact h
 · have : 1 * 2 ^ (64 * k) ≤ z * 2 ^ (64 * k) := Nat.mul_le_mul hz (Nat.le_refl _)
   omega
set_option maxRecDepth 100000 in
set_option maxHeartbeats 1000000 in
theorem add_any (a b : ByteArray) (w : World) :
   Calls Tryz.prog 20 #[.string a, .string b] w fun e w' => e = .returned (if a.size = 32 ∧ b.size = 32 then .tuple #[.string (sc (num a + num b)), .int .i64 0] else .tuple #[.string ⟨#[]⟩, .int .i64 50]) ∧ Below w.heap.size w w' := by
 by_cases ha : a.size = 32
 · by_cases hb : b.size = 32
   · rw [if_pos ⟨ha, hb⟩]
     have ha' : ((a.size : Int) != 32) = false := by simp; omega
     have hb' : ((b.size : Int) != 32) = false := by simp; omega
     have HA := Box.mk ha; clear ha
     have HB := Box.mk hb; clear hb
     go_enter Tryz.func20, Tryz.ntmps20
     go_wp2_with fail
     refine (words_any a (by have := HA.out; omega) _).mono ?_
     rintro e w1 ⟨bx, hbx, rfl, hr1, hb1⟩
     go_wp2_with fail
     refine (words_any b (by have := HB.out; omega) _).mono ?_
     rintro e w2 ⟨b2, hb2, rfl, hr2, hb3⟩
     have hbl : bx < w1.heap.size := (Array.getElem?_eq_some_iff.1 hr1).1
     have hst : AddSt w bx b2 (num a) (num b) 0 0 w2 := ⟨⟨num a, (hb3.block _ hbl).trans hr1, by simp [Nat.mod_one]⟩, hr2, by omega, hb1.trans (hb3.mono hb1.size)⟩
     have hne : bx ≠ b2 := by omega
     have HS := Box.mk hst; clear hst
     clear hr1 hr2 hb1 hb3 hb2 hbl
     go_wp2_with fail
     go_loopw [8, 24] (fun o i wr => ∃ (k : Nat) (z : Int), k ≤ 8 ∧ i = .int .i64 k ∧ o = .int .u64 z ∧ AddSt w bx b2 (num a) (num b) k z wr) (fun _ i _ => 8 - (intOf i).toNat)
     case atStart => exact ⟨0, 0, by omega, rfl, rfl, HS.out⟩
     case round =>
       clear HS
       obtain ⟨k, z, hk, rfl, rfl, hs⟩ := hrel
       by_cases hlt : k < 8
       · obtain ⟨⟨O, h1, hO⟩, h2, hz, hbel⟩ := hs
         obtain ⟨s, c, hrun, hs, hc, he⟩ := add64_ex Tryz.prog 49 _ Tryz.func49 (by kernel_rfl) (by kernel_rfl) (by kernel_rfl) (by kernel_rfl) (limb O k) (limb (num b) k) z (limb_bd _ _) (limb_bd _ _) hz
         have hst := AddSt.step h2 h1 hO hz hbel hne hbx hs hc he
         have HS := Box.mk hst; clear hst
         have c1 : wr.cell? ⟨bx, k, none⟩ = some (.int .u64 (limb O k)) := by rw [cell_of_row _ _ _ _ _ _ h1]; exact wcells_get _ _ _ hlt
         have c2 : wr.cell? ⟨b2, k, none⟩ = some (.int .u64 (limb (num b) k)) := by rw [cell_of_row _ _ _ _ _ _ h2]; exact wcells_get _ _ _ hlt
         have f1 : wr.frozen? ⟨bx, k, none⟩ = false := frozen_of_row _ _ _ _ _ h1
         clear h1 h2 hO hbel hs hc he
         go_wp2_with fail
         go_region
         go_wp2
         go_roundw
         case rel => exact ⟨k + 1, c, by omega, by go_num, rfl, HS.out⟩
         case measure => simp [intOf]; omega
       · have hge : 8 ≤ k := by omega
         obtain ⟨⟨O, h1, hO⟩, h2, hz, hbel⟩ := hs
         have hX := num_in a 4 (by have := HA.out; omega)
         have hY := num_in b 4 (by have := HB.out; omega)
         have hlt8 : Box (InWords (num a + num b) 8) := ⟨InWords.sum (k := 4) (by decide) hX hY⟩
         have hOe := add_end hO (hlt8.out.mono hge) (hY.mono (by omega))
         subst hOe
         clear hX hY hO h2
         have HR := Box.mk h1; clear h1
         go_wp2_with fail
         refine (mod_any (num a + num b) 8 bx _ (by omega) hlt8.out HR.out).mono ?_
         rintro e w2 ⟨rfl, hb2⟩
         go_wp2_with fail
         refine (bytes_any _ _).mono ?_
         rintro e w3 ⟨rfl, hb3⟩
         go_wp2
         go_ret2
         exact ⟨rfl, hbel.trans ((hb2.mono hbel.size).trans (hb3.mono (Nat.le_trans hbel.size hb2.size)))⟩
   · rw [if_neg (fun h => hb h.2)]
     have ha' : ((a.size : Int) != 32) = false := by simp; omega
     have hb' : ((b.size : Int) != 32) = true := by simp; omega
     have HA := Box.mk ha; clear ha
     have HB := Box.mk hb; clear hb
     go_enter Tryz.func20, Tryz.ntmps20
     go_wp2
     go_ret2
     exact ⟨rfl, Below.refl _ _⟩
 · rw [if_neg (fun h => ha h.1)]
   have ha' : ((a.size : Int) != 32) = true := by simp; omega
   have HA := Box.mk ha; clear ha
   go_enter Tryz.func20, Tryz.ntmps20
   go_wp2
   go_ret2
   exact ⟨rfl, Below.refl _ _⟩
end Go.Proofs.YtafhncpaoolljaaGreat
