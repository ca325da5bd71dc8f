/- The scalar package: the order, a number doubled, a difference. -/
import Derived.Test.YtilehlgnkfjcpaaRows
import Derived.Test.YtilehlgnkfjcpaaBase
namespace Go.Proofs.Ytilehlgnkfjcpaa
open Go Go.RowKit

def limbs (n : Nat) : Value := .agg #[.int .u64 (limb n 0), .int .u64 (limb n 1), .int .u64 (limb n 2), .int .u64 (limb n 3)]
@[irreducible] def ordL : Nat := 7237005577332262213973186563042994240857116359379907606001950938285454250989
theorem order_any (w : World) : Calls Try.prog 31 #[] w fun e w' => e = .returned (limbs ordL) ∧ Below w.heap.size w w' := by
  go_enter Try.func31, Try.ntmps31
  go_wp2
  go_returns
  refine ⟨?_, by go_grown⟩
  simp [limbs, limb, ordL]

theorem limbs_twice (n b : Nat) (hb : b ≤ 1) :
    limbs ((2 * n + b) % 2 ^ 256) = .agg #[.int .u64 (bits .or .u64 (IntKind.u64.wrap (limb n 0 * 2)) b), .int .u64 (bits .or .u64 (IntKind.u64.wrap (limb n 1 * 2)) (limb n 0 / 9223372036854775808)),
      .int .u64 (bits .or .u64 (IntKind.u64.wrap (limb n 2 * 2)) (limb n 1 / 9223372036854775808)), .int .u64 (bits .or .u64 (IntKind.u64.wrap (limb n 3 * 2)) (limb n 2 / 9223372036854775808))] := by
  have h0 := limb_bd n 0; have h1 := limb_bd n 1; have h2 := limb_bd n 2; have h3 := limb_bd n 3
  rw [or_bit _ _ h0 (by omega), or_bit _ _ h1 (by omega), or_bit _ _ h2 (by omega), or_bit _ _ h3 (by omega)]
  clear h0 h1 h2 h3
  unfold limbs limb
  refine agg4_congr ?_ ?_ ?_ ?_ <;> simp <;> omega

set_option maxHeartbeats 400000 in
theorem twice_any (n b : Nat) (hb : b ≤ 1) (w : World) : Calls Try.prog 32 #[limbs n, .int .u64 b] w fun e w' => e = .returned (limbs ((2 * n + b) % 2 ^ 256)) ∧ Below w.heap.size w w' := by
  have H := Box.mk (limbs_twice n b hb)
  unfold limbs at H ⊢
  generalize limb n 0 = a0 at H ⊢; generalize limb n 1 = a1 at H ⊢; generalize limb n 2 = a2 at H ⊢; generalize limb n 3 = a3 at H ⊢
  generalize (b : Int) = b at H ⊢
  go_enter Try.func32, Try.ntmps32
  go_wp2
  go_rounds 5
  go_returns
  exact ⟨congrArg _ H.out.symm, by go_grown⟩
/-- A number doubled, and a bit; a difference: of 256 bits. -/
@[irreducible] def dbl (n b : Nat) : Nat := (2 * n + b) % 2 ^ 256
@[irreducible] def dif (n m : Nat) : Nat := (n + 2 ^ 256 - m) % 2 ^ 256
theorem twice_int (n : Nat) (b : Int) (hb : 0 ≤ b ∧ b ≤ 1) (w : World) : Calls Try.prog 32 #[limbs n, .int .u64 b] w fun e w' => e = .returned (limbs (dbl n b.toNat)) ∧ Below w.heap.size w w' := by
  obtain ⟨b, rfl⟩ := Int.eq_ofNat_of_zero_le hb.1
  have := twice_any n b (by omega) w
  simpa only [dbl, Int.toNat_natCast] using this

theorem limbs_sum (n : Nat) (hn : n < 2 ^ 256) : (n : Int) = limb n 0 + 18446744073709551616 * limb n 1 + 340282366920938463463374607431768211456 * limb n 2 + 6277101735386680763835789423207666416102355444464034512896 * limb n 3 := by
  unfold limb; simp; omega
theorem limbs_of (n : Nat) (x0 x1 x2 x3 : Int) (b0 : 0 ≤ x0 ∧ x0 < 18446744073709551616) (b1 : 0 ≤ x1 ∧ x1 < 18446744073709551616) (b2 : 0 ≤ x2 ∧ x2 < 18446744073709551616) (b3 : 0 ≤ x3 ∧ x3 < 18446744073709551616)
    (h : (n : Int) = x0 + 18446744073709551616 * x1 + 340282366920938463463374607431768211456 * x2 + 6277101735386680763835789423207666416102355444464034512896 * x3) :
    .agg #[.int .u64 x0, .int .u64 x1, .int .u64 x2, .int .u64 x3] = limbs n := by
  unfold limbs limb
  refine agg4_congr ?_ ?_ ?_ ?_ <;> simp <;> omega

theorem limbs_less (n m : Nat) (hn : n < 2 ^ 256) (hm : m < 2 ^ 256) (d0 d1 d2 d3 c0 c1 c2 c3 : Int)
    (b0 : 0 ≤ d0 ∧ d0 < 18446744073709551616) (b1 : 0 ≤ d1 ∧ d1 < 18446744073709551616) (b2 : 0 ≤ d2 ∧ d2 < 18446744073709551616) (b3 : 0 ≤ d3 ∧ d3 < 18446744073709551616) (k3 : 0 ≤ c3 ∧ c3 ≤ 1)
    (h0 : d0 = limb n 0 - limb m 0 - 0 + 18446744073709551616 * c0) (h1 : d1 = limb n 1 - limb m 1 - c0 + 18446744073709551616 * c1)
    (h2 : d2 = limb n 2 - limb m 2 - c1 + 18446744073709551616 * c2) (h3 : d3 = limb n 3 - limb m 3 - c2 + 18446744073709551616 * c3) :
    .agg #[.int .u64 d0, .int .u64 d1, .int .u64 d2, .int .u64 d3] = limbs (dif n m) ∧ (c3 == 1) = decide (n < m) := by
  have e : d0 + 18446744073709551616 * d1 + 340282366920938463463374607431768211456 * d2 + 6277101735386680763835789423207666416102355444464034512896 * d3 = (n : Int) - m + 115792089237316195423570985008687907853269984665640564039457584007913129639936 * c3 := by
    rw [limbs_sum n hn, limbs_sum m hm, h0, h1, h2, h3]; omega
  clear h0 h1 h2 h3
  refine ⟨limbs_of _ _ _ _ _ b0 b1 b2 b3 ?_, ?_⟩
  · rw [e]; unfold dif; omega
  · rw [Bool.eq_iff_iff, beq_iff_eq, decide_eq_true_iff]; omega

set_option maxHeartbeats 400000 in
theorem less_any (n m : Nat) (hn : n < 2 ^ 256) (hm : m < 2 ^ 256) (w : World) : Calls Try.prog 33 #[limbs n, limbs m] w fun e w' => e = .returned (.tuple #[limbs (dif n m), .bool (decide (n < m))]) ∧ Below w.heap.size w w' := by
  have S := sub64_ex Try.prog 35 _ Try.func35 (by kernel_rfl) (by kernel_rfl) (by kernel_rfl) (by kernel_rfl)
  obtain ⟨d0, c0, r0, b0, k0, h0⟩ := S (limb n 0) (limb m 0) 0 (limb_bd _ _) (limb_bd _ _) (by omega)
  obtain ⟨d1, c1, r1, b1, k1, h1⟩ := S (limb n 1) (limb m 1) c0 (limb_bd _ _) (limb_bd _ _) k0
  obtain ⟨d2, c2, r2, b2, k2, h2⟩ := S (limb n 2) (limb m 2) c1 (limb_bd _ _) (limb_bd _ _) k1
  obtain ⟨d3, c3, r3, b3, k3, h3⟩ := S (limb n 3) (limb m 3) c2 (limb_bd _ _) (limb_bd _ _) k2
  have H := Box.mk (limbs_less n m hn hm d0 d1 d2 d3 c0 c1 c2 c3 b0 b1 b2 b3 k3 h0 h1 h2 h3)
  clear S b0 b1 b2 b3 k0 k1 k2 k3 h0 h1 h2 h3
  generalize hx : limbs (dif n m) = X at H ⊢
  generalize hy : decide (n < m) = Y at H ⊢
  clear hx hy
  unfold limbs
  go_enter Try.func33, Try.ntmps33
  go_wp2
  refine wp_loop_rounds 5 ?_
  iterate 4 (rw [rounds_succ]; go_wp2; go_region; go_wp2)
  rw [rounds_succ]; go_wp2
  go_returns
  refine ⟨?_, by go_grown⟩
  rw [← H.out.1, ← H.out.2]
end Go.Proofs.Ytilehlgnkfjcpaa
