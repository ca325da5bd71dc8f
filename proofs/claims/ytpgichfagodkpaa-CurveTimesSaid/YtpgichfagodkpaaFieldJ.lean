/- The package limbs: Bytes. -/
import Derived.Test.YtpgichfagodkpaaFieldI
namespace Go.Proofs.Ytpgichfagodkpaa.Fe
set_option linter.unusedVariables false
open Go Go.RowKit

/-- A shift to the right beside one to the left, of limbs. -/
theorem shift_or2 (x y r l m : Nat) (hx : x < 2 ^ (l + r)) (hx64 : x < 18446744073709551616) (hl : l ≤ 64) (hm : m = 2 ^ l) :
    ∃ p q : Nat, (x : Int) / (2 ^ r : Nat) = (p : Int) ∧ IntKind.u64.wrap ((y : Int) * (m : Nat)) = (q : Int) ∧ bits .or .u64 (p : Int) (q : Int) = ((p + q : Nat) : Int) ∧ (p = x / 2 ^ r ∧ q = y * m % 18446744073709551616) := by
  have hp : x / 2 ^ r < 2 ^ l := by rw [Nat.div_lt_iff_lt_mul (Nat.two_pow_pos _), ← Nat.pow_add]; exact hx
  have hq : y * m % 18446744073709551616 % 2 ^ l = 0 := by
    have : (18446744073709551616 : Nat) = 2 ^ l * 2 ^ (64 - l) := by rw [← Nat.pow_add, show l + (64 - l) = 64 from by omega]
    rw [this, Nat.mod_mul_right_mod, hm, Nat.mul_mod_left]
  refine ⟨x / 2 ^ r, y * m % 18446744073709551616, by simp, by rw [IntKind.wrap_u64]; omega, ?_, rfl, rfl⟩
  rw [u64_or_nat _ _ (Nat.lt_of_le_of_lt (Nat.div_le_self _ _) hx64) (Nat.mod_lt _ (by omega)), Nat.or_comm, nat_join l _ _ hq hp, Nat.add_comm]
theorem words_lv (g : Nat → Nat) (h : Lim 3 g) : g 0 + g 1 * 2251799813685248 % 18446744073709551616 = lv g / 2 ^ (64 * 0) % 18446744073709551616 ∧ g 1 / 2 ^ 13 + g 2 * 274877906944 % 18446744073709551616 = lv g / 2 ^ (64 * 1) % 18446744073709551616 ∧
    g 2 / 2 ^ 26 + g 3 * 33554432 % 18446744073709551616 = lv g / 2 ^ (64 * 2) % 18446744073709551616 ∧ g 3 / 2 ^ 39 + g 4 * 4096 % 18446744073709551616 = lv g / 2 ^ (64 * 3) % 18446744073709551616 := by
  have h0 := h.m3 (by omega) 0 (by omega); have h1 := h.m3 (by omega) 1 (by omega); have h2 := h.m3 (by omega) 2 (by omega); have h3 := h.m3 (by omega) 3 (by omega); have h4 := h.m3 (by omega) 4 (by omega)
  rw [lv_eq]
  simp only [Nat.reduceMul, Nat.reducePow]
  refine ⟨by omega, by omega, by omega, by omega⟩
set_option maxRecDepth 100000 in
set_option maxHeartbeats 2000000 in
theorem bytes_any (f : Nat → Nat) (hf : Lim 0 f) (w : World) :
    Calls Try.prog 49 #[.agg (ecell f)] w fun e w' => e = .returned (.string (sbytes (lv f % fp))) ∧ Below w.heap.size w w' := by
  have hmk : ∀ w, (Instr.makeSlice 31 (.int .i64 32) (.int .i64 32)).run Try.prog w = .ok (.slice (some ⟨w.heap.size, 0, none⟩) 32 32) (w.alloc (.cells (bcells 0 0 32) 5)) := fun _ => by kernel_rfl
  obtain ⟨N, hN⟩ : ∃ N, N = lv f % fp := ⟨_, rfl⟩
  rw [← hN]
  obtain ⟨W0, hW0⟩ : ∃ W, W = w.alloc (.cells (ecell f) 41) := ⟨_, rfl⟩
  have g0 : W0.heap[w.heap.size]? = some (.cells (ecell f) 41 (0, 0)) := by rw [hW0]; exact heap_alloc_new _ _
  have b0 : Below w.heap.size w W0 := by rw [hW0]; go_grown
  have G0 := Box.mk g0; have B0 := Box.mk b0; have HF := Box.mk hf; have HN := Box.mk hN; have HMK := Box.mk hmk
  clear g0 b0 hf hN hmk
  go_enter Try.func49, Try.ntmps49
  go_upto_region 1 with (fail)
  rw [← hW0]
  clear hW0
  go_wp2_with ((with_reducible refine wpList_loadE rfl (.tmp 1) rfl w.heap.size f G0.out ?_ ?_); rfl)
  refine (least_any f HF.out _).mono ?_
  rintro e w2 ⟨g, rfl, hl, hv, hb⟩
  have g2 : w2.heap[w.heap.size]? = some (.cells (ecell f) 41 (0, 0)) := (hb.block _ (Array.getElem?_eq_some_iff.1 G0.out).1).trans G0.out
  have b2 := B0.out.trans (hb.mono B0.out.size)
  obtain ⟨W3, hW3⟩ : ∃ W, W = w2.setRow w.heap.size (ecell g) := ⟨_, rfl⟩
  have g3 : W3.heap[w.heap.size]? = some (.cells (ecell g) 41 (0, 0)) := by rw [hW3]; exact setRow_heap _ _ _ _ _ _ g2
  have b3 : Below w.heap.size w W3 := by rw [hW3]; exact below_setRow b2 (Nat.le_refl _) _
  have G2 := Box.mk g2; have B3 := Box.mk b3
  go_upto_region 2 with ((with_reducible refine wpList_storeE rfl (.tmp 1) (.tmp 7) rfl w.heap.size g f G2.out ?_ ?_ ?_); rfl; rfl)
  go_frame
  rw [← hW3]
  clear hW3 g2 b2 b3 hb
  have l0 := hl.m3 (by omega) 0 (by omega); have l1 := hl.m3 (by omega) 1 (by omega); have l2 := hl.m3 (by omega) 2 (by omega); have l3 := hl.m3 (by omega) 3 (by omega); have l4 := hl.m3 (by omega) 4 (by omega)
  obtain ⟨u0, u1, u2, u3⟩ := words_lv g hl
  rw [hv, ← HN.out] at u0 u1 u2 u3
  have c0 := cell_of_row _ _ 0 _ _ _ g3; have c1 := cell_of_row _ _ 1 _ _ _ g3; have c2 := cell_of_row _ _ 2 _ _ _ g3; have c3 := cell_of_row _ _ 3 _ _ _ g3; have c4 := cell_of_row _ _ 4 _ _ _ g3
  simp [ecell] at c0 c1 c2 c3 c4
  obtain ⟨p0, q0, d0, m0, o0, f0⟩ := shift_or2 (g 0) (g 1) 0 51 2251799813685248 (by omega) (by omega) (by omega) rfl
  obtain ⟨p1, q1, d1, m1, o1, f1⟩ := shift_or2 (g 1) (g 2) 13 38 274877906944 (by omega) (by omega) (by omega) rfl
  obtain ⟨p2, q2, d2, m2, o2, f2⟩ := shift_or2 (g 2) (g 3) 26 25 33554432 (by omega) (by omega) (by omega) rfl
  obtain ⟨p3, q3, d3, m3, o3, f3⟩ := shift_or2 (g 3) (g 4) 39 12 4096 (by omega) (by omega) (by omega) rfl
  have e0 : p0 + q0 = N / 2 ^ (64 * 0) % 18446744073709551616 := by rw [f0.1, f0.2, ← u0]; simp
  have e1 : p1 + q1 = N / 2 ^ (64 * 1) % 18446744073709551616 := by rw [f1.1, f1.2]; exact u1
  have e2 : p2 + q2 = N / 2 ^ (64 * 2) % 18446744073709551616 := by rw [f2.1, f2.2]; exact u2
  have e3 : p3 + q3 = N / 2 ^ (64 * 3) % 18446744073709551616 := by rw [f3.1, f3.2]; exact u3
  have hp0 : p0 = g 0 := by rw [f0.1]; simp
  rw [hp0] at o0
  rw [show ((2251799813685248 : Nat) : Int) = 2251799813685248 from rfl] at m0
  rw [show ((2 ^ 13 : Nat) : Int) = 8192 from rfl] at d1
  rw [show ((274877906944 : Nat) : Int) = 274877906944 from rfl] at m1
  rw [show ((2 ^ 26 : Nat) : Int) = 67108864 from rfl] at d2
  rw [show ((33554432 : Nat) : Int) = 33554432 from rfl] at m2
  rw [show ((2 ^ 39 : Nat) : Int) = 549755813888 from rfl] at d3
  rw [show ((4096 : Nat) : Int) = 4096 from rfl] at m3
  rw [← hp0] at o0
  rw [← hp0] at c0
  have hwc : wcells N 4 = #[.int .u64 ((p0 + q0 : Nat) : Int), .int .u64 ((p1 + q1 : Nat) : Int), .int .u64 ((p2 + q2 : Nat) : Int), .int .u64 ((p3 + q3 : Nat) : Int)] := by
    rw [e0, e1, e2, e3]; simp [wcells, List.range, List.range.loop, limb_nat]
  obtain ⟨x0, hx0⟩ : ∃ x, x = p0 + q0 := ⟨_, rfl⟩
  obtain ⟨x1, hx1⟩ : ∃ x, x = p1 + q1 := ⟨_, rfl⟩
  obtain ⟨x2, hx2⟩ : ∃ x, x = p2 + q2 := ⟨_, rfl⟩
  obtain ⟨x3, hx3⟩ : ∃ x, x = p3 + q3 := ⟨_, rfl⟩
  rw [← hx0] at o0 hwc; rw [← hx1] at o1 hwc; rw [← hx2] at o2 hwc; rw [← hx3] at o3 hwc
  generalize g 1 = y1 at c1 m0 d1
  generalize g 2 = y2 at c2 m1 d2
  generalize g 3 = y3 at c3 m2 d3
  generalize g 4 = y4 at c4 m3
  have HWC := Box.mk hwc
  have hzb : w.heap.size < W3.heap.size := World.block_lt_of_cell? _ _ c0
  clear g3 l0 l1 l2 l3 l4 u0 u1 u2 u3 f0 f1 f2 f3 e0 e1 e2 e3 hp0 hx0 hx1 hx2 hx3 hwc hl hv d0
  go_upto_region 3 with (fail)
  rw [← HWC.out]
  obtain ⟨bb, hbb⟩ : ∃ b, b = W3.heap.size := ⟨_, rfl⟩
  rw [← hbb]
  obtain ⟨W4, hW4⟩ : ∃ W, W = W3.alloc (.cells (wcells N 4) 89) := ⟨_, rfl⟩
  rw [← hW4]
  have q4 : W4.heap[bb]? = some (.cells (wcells N 4) 89 (0, 0)) := by rw [hW4, hbb]; exact heap_alloc_new _ _
  have b4 : Below w.heap.size w W4 := by rw [hW4]; exact B3.out.alloc B3.out.size _
  have hlt4 : bb < W4.heap.size := (Array.getElem?_eq_some_iff.1 q4).1
  obtain ⟨bc, hbc⟩ : ∃ b, b = W4.heap.size := ⟨_, rfl⟩
  obtain ⟨W5, hW5⟩ : ∃ W, W = W4.alloc (.cells (bcells 0 0 32) 5) := ⟨_, rfl⟩
  have q5 : W5.heap[bb]? = some (.cells (wcells N 4) 89 (0, 0)) := by rw [hW5, heap_alloc_old _ _ hlt4]; exact q4
  have q6 : W5.heap[bc]? = some (.cells (bcells N 0 32) 5 (0, 0)) := by
    rw [hW5, hbc, heap_alloc_new]; simp [bcells]
  have b5 : Below w.heap.size w W5 := by rw [hW5]; exact b4.alloc b4.size _
  have hne : bb ≠ bc := by omega
  have hgb : w.heap.size ≤ bc := by have := b4.size; omega
  have Q5 := Box.mk q5; have Q6 := Box.mk q6; have B5 := Box.mk b5
  have hmk := HMK.out W4
  rw [← hW5, ← hbc] at hmk
  clear q4 q5 q6 b4 b5 hlt4 hW4 hbb hW5 hbc c0 c1 c2 c3 c4 o0 o1 o2 o3 m0 m1 m2 m3 d1 d2 d3 hzb
  go_wp2_with fail
  clear hmk
  go_loopw [39] (fun i wr => ∃ k : Nat, k ≤ 32 ∧ i = .int .i64 k ∧ wr.heap[bb]? = some (.cells (wcells N 4) 89 (0, 0)) ∧ wr.heap[bc]? = some (.cells (bcells N k 32) 5 (0, 0)) ∧ Below w.heap.size w wr) (fun i _ => 32 - (intOf i).toNat)
  case atStart => exact ⟨0, Nat.zero_le _, rfl, Q5.out, Q6.out, B5.out⟩
  case round =>
    clear Q5 Q6 B5
    obtain ⟨k, hk, rfl, hrow, hrow2, hbel⟩ := hrel
    by_cases hlt : k < 32
    · have hkI : (k : Int) < 32 := by omega
      have hc : wr.cell? ⟨bb, k / 8, none⟩ = some (.int .u64 (limb N (k / 8))) := by
        rw [cell_of_row _ _ _ _ _ _ hrow]; exact wcells_get _ _ _ (by omega)
      have hc2 : wr.cell? ⟨bc, k, none⟩ = some (.int .u8 ((if k < k then N / 256 ^ k % 256 else 0 : Nat) : Int)) := by
        rw [cell_of_row _ _ _ _ _ _ hrow2]; simp [bcells, hlt]
      have hf : wr.frozen? ⟨bc, k, none⟩ = false := frozen_of_row _ _ _ _ _ hrow2
      have hbd := limb_bd N (k / 8)
      have HR := Box.mk hrow; have HR2 := Box.mk hrow2; have HB := Box.mk hbel
      clear hrow hrow2 hbel
      have HX := Box.mk (byte_of N k)
      generalize limb N (k / 8) = x at hc hbd HX
      go_wp2
      refine ⟨⟨k + 1, by omega, by go_num, ?_, ?_, HB.out.setCell hgb _⟩, by simp [intOf]; omega⟩
      · rw [heap_setCell_other _ _ _ _ (by simpa using hne)]; exact HR.out
      · rw [heap_setCell_same _ _ _ _ _ _ HR2.out, HX.out, bcells_step]
    · have hk' : k = 32 := by omega
      subst hk'
      rw [bcells_all] at hrow2
      have hcv := run_bytes_of_row Try.prog wr bc 32 _ _ 31 9 5 32 (leList_length _ _) Try.underlying31 Try.underlying5 Try.underlying9 hrow2
      clear hrow hrow2
      have HB := Box.mk hbel; clear hbel
      go_wp2
      go_ret
      exact ⟨rfl, HB.out⟩
end Go.Proofs.Ytpgichfagodkpaa.Fe
