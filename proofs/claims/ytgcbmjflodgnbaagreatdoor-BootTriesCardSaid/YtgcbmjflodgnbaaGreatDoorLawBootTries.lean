/- Whatever boot record comes in, the call of BootTries returns true and leaves its argument as it was. Its condition: the package-level variable boot.errNone holds what its initialiser lays; the card ties that to the program. -/
import Derived.Test.YtgcbmjflodgnbaaGreatDoorM13
import Derived.Test.YtgcbmjflodgnbaaGreatDoorM14
import Derived.Test.YtgcbmjflodgnbaaGreatDoorCards
import Derived.Test.YtgcbmjflodgnbaaGreatDoorTie
import Derived.ProofKit
import Derived.OpenShut
import Derived.ShutString
import Derived.ChangeOld
import Derived.Deep.DeepHandedRow
import Derived.Stop.LaidErr
namespace Go.Proofs.YtgcbmjflodgnbaaGreatDoor.bootTries
set_option maxRecDepth 100000
open Go Go.RowKit Go.ChangeShapes Go.WideShapes Go.ChangeAt
open Go.ChangeMaps (open_string shut_string)
set_option linter.unusedVariables false

theorem next_no (sl ct s0 s1 : Int) : BR.next ⟨sl, false, ct, s0, s1⟩ = (sl, ⟨sl, false, ct, s0, s1⟩) := by unfold BR.next; rw [if_pos rfl]
theorem next_up (sl s0 s1 : Int) : BR.next ⟨sl, true, 0, s0, s1⟩ = (sl, ⟨sl, true, 1, s0, s1⟩) := by
  unfold BR.next; dsimp only
  rw [if_neg (by decide), if_pos (by omega), show wrap64 (0 + 1) = 1 by rw [IntWalk.wrap64_in] <;> omega]
theorem next_ov (ct s0 s1 : Int) (h : 1 ≤ ct) : BR.next ⟨0, true, ct, s0, s1⟩ = (1, ⟨1, false, 0, s0, s1⟩) ∧ BR.next ⟨1, true, ct, s0, s1⟩ = (0, ⟨0, false, 0, s0, s1⟩) := by
  unfold BR.next; dsimp only
  refine ⟨?_, ?_⟩
  · rw [if_neg (by decide), if_neg (by omega), show wrap64 (1 - 0) = 1 by rw [IntWalk.wrap64_in] <;> omega]
  · rw [if_neg (by decide), if_neg (by omega), show wrap64 (1 - 1) = 0 by rw [IntWalk.wrap64_in] <;> omega]
set_option maxHeartbeats 4000000 in
theorem walk_no0 (ct s0 s1 : Int) (hm : BR.May ⟨0, false, ct, s0, s1⟩) (w : World) (a0 : Addr) (hE : ErrAt w a0) : Calls Tryz.prog 3 #[brV ⟨0, false, ct, s0, s1⟩] w fun e w' => e = .returned (.bool true) ∧ Below w.heap.size w w' := by
  have MA := Box.mk (fun w => rmay_any ⟨0, false, ct, s0, s1⟩ w)
  rw [(BR.may_iff _).2 hm] at MA
  have N1 := Box.mk (fun w => next_any ⟨0, false, ct, s0, s1⟩ w)
  have N2 := Box.mk (fun w => next_any ⟨0, false, ct, s0, s1⟩ w)
  have N3 := Box.mk (fun w => next_any ⟨0, false, ct, s0, s1⟩ w)
  rw [next_no] at N1; rw [next_no] at N2; rw [next_no] at N3
  have FX := Box.mk (fun w hE => bfixed_any a0 w hE)
  have HE := Box.mk hE; have GE := Box.mk hE.lt
  have EQ := eq_boot
  have HYP : Box (1 ≤ (2 : Int)) := ⟨by omega⟩
  unfold brV brC at *
  dsimp only at MA N1 N2 N3 ⊢
  obtain ⟨z0, hz0⟩ : ∃ z, z = w.heap.size := ⟨_, rfl⟩
  obtain ⟨W0, hW0⟩ : ∃ W, W = w.alloc (.cells #[.int .i64 0, .bool false, .int .i64 ct, .int .i64 s0, .int .i64 s1] 24) := ⟨_, rfl⟩
  have R0 := Box.mk (show W0.heap[z0]? = some (.cells #[.int .i64 0, .bool false, .int .i64 ct, .int .i64 s0, .int .i64 s1] 24 (0, 0)) by rw [hW0, hz0]; exact heap_alloc_new _ _)
  have B0 := Box.mk (show Below w.heap.size w W0 by rw [hW0]; exact (Below.refl _ _).alloc (Nat.le_refl _) _)
  clear hm hE
  go_enter Tryz.func3, Tryz.ntmps3
  go_upto_region 1 with (fail)
  rw [← hW0, ← hz0]
  clear hz0 hW0
  obtain ⟨⟨k0, k1, k2, k3, k4⟩, _⟩ := boot_cells (r := ⟨0, false, ct, s0, s1⟩) R0.out
  go_wp2_with fail
  clear k0 k1 k2 k3 k4
  refine (MA.out _).mono ?_
  rintro e w1 ⟨rfl, hb⟩
  have B1 := Box.mk (B0.out.trans (hb.mono B0.out.size))
  have R1 := Box.mk ((hb.block z0 (Array.getElem?_eq_some_iff.1 R0.out).1).trans R0.out)
  clear hb B0 R0 MA
  obtain ⟨⟨k0, k1, k2, k3, k4⟩, _⟩ := boot_cells (r := ⟨0, false, ct, s0, s1⟩) R1.out
  go_wp2_with fail
  clear k0 k1 k2 k3 k4
  refine (N1.out _).mono ?_
  rintro e v1 ⟨rfl, hb⟩
  obtain ⟨z1, hz⟩ : ∃ z, z = v1.heap.size := ⟨_, rfl⟩
  obtain ⟨W1, hW⟩ : ∃ W, W = v1.alloc (.cells #[.int .i64 0, .bool false, .int .i64 ct, .int .i64 s0, .int .i64 s1] 24) := ⟨_, rfl⟩
  have RN := Box.mk (show W1.heap[z1]? = some (.cells #[.int .i64 0, .bool false, .int .i64 ct, .int .i64 s0, .int .i64 s1] 24 (0, 0)) by rw [hW, hz]; exact heap_alloc_new _ _)
  have hq : Below w1.heap.size w1 W1 := by rw [hW]; exact hb.alloc hb.size _
  have BN := Box.mk (B1.out.trans (hq.mono B1.out.size))
  have RN0 := Box.mk ((hq.block z0 (Array.getElem?_eq_some_iff.1 R1.out).1).trans R1.out)
  go_upto_region 4 with (fail)
  rw [← hW, ← hz]
  clear hW hz hq hb
  have RO2_0 := Box.mk RN0.out
  have RO2_1 := Box.mk RN.out
  have B2 := Box.mk BN.out
  clear RN BN RN0
  obtain ⟨⟨k0, k1, k2, k3, k4⟩, _⟩ := boot_cells (r := ⟨0, false, ct, s0, s1⟩) RO2_1.out
  go_wp2_with fail
  clear k0 k1 k2 k3 k4
  refine (N2.out _).mono ?_
  rintro e v2 ⟨rfl, hb⟩
  obtain ⟨z2, hz⟩ : ∃ z, z = v2.heap.size := ⟨_, rfl⟩
  obtain ⟨W2, hW⟩ : ∃ W, W = v2.alloc (.cells #[.int .i64 0, .bool false, .int .i64 ct, .int .i64 s0, .int .i64 s1] 24) := ⟨_, rfl⟩
  have RN := Box.mk (show W2.heap[z2]? = some (.cells #[.int .i64 0, .bool false, .int .i64 ct, .int .i64 s0, .int .i64 s1] 24 (0, 0)) by rw [hW, hz]; exact heap_alloc_new _ _)
  have hq : Below W1.heap.size W1 W2 := by rw [hW]; exact hb.alloc hb.size _
  have BN := Box.mk (B2.out.trans (hq.mono B2.out.size))
  have RN0 := Box.mk ((hq.block z0 (Array.getElem?_eq_some_iff.1 RO2_0.out).1).trans RO2_0.out)
  have RN1 := Box.mk ((hq.block z1 (Array.getElem?_eq_some_iff.1 RO2_1.out).1).trans RO2_1.out)
  go_upto_region 5 with (fail)
  rw [← hW, ← hz]
  clear hW hz hq hb
  have RO3_0 := Box.mk RN0.out
  have RO3_1 := Box.mk RN1.out
  have RO3_2 := Box.mk RN.out
  have B3 := Box.mk BN.out
  clear RN BN RN0 RN1
  obtain ⟨⟨k0, k1, k2, k3, k4⟩, _⟩ := boot_cells (r := ⟨0, false, ct, s0, s1⟩) RO3_2.out
  go_wp2_with fail
  clear k0 k1 k2 k3 k4
  refine (N3.out _).mono ?_
  rintro e v3 ⟨rfl, hb⟩
  obtain ⟨z3, hz⟩ : ∃ z, z = v3.heap.size := ⟨_, rfl⟩
  obtain ⟨W3, hW⟩ : ∃ W, W = v3.alloc (.cells #[.int .i64 0, .bool false, .int .i64 ct, .int .i64 s0, .int .i64 s1] 24) := ⟨_, rfl⟩
  have RN := Box.mk (show W3.heap[z3]? = some (.cells #[.int .i64 0, .bool false, .int .i64 ct, .int .i64 s0, .int .i64 s1] 24 (0, 0)) by rw [hW, hz]; exact heap_alloc_new _ _)
  have hq : Below W2.heap.size W2 W3 := by rw [hW]; exact hb.alloc hb.size _
  have BN := Box.mk (B3.out.trans (hq.mono B3.out.size))
  have RN0 := Box.mk ((hq.block z0 (Array.getElem?_eq_some_iff.1 RO3_0.out).1).trans RO3_0.out)
  have RN1 := Box.mk ((hq.block z1 (Array.getElem?_eq_some_iff.1 RO3_1.out).1).trans RO3_1.out)
  have RN2 := Box.mk ((hq.block z2 (Array.getElem?_eq_some_iff.1 RO3_2.out).1).trans RO3_2.out)
  go_upto_region 6 with (fail)
  rw [← hW, ← hz]
  clear hW hz hq hb
  have RO4_0 := Box.mk RN0.out
  have RO4_1 := Box.mk RN1.out
  have RO4_2 := Box.mk RN2.out
  have RO4_3 := Box.mk RN.out
  have B4 := Box.mk BN.out
  clear RN BN RN0 RN1 RN2
  go_wp2_with fail
  refine (FX.out _ (HE.out.below B4.out GE.out)).mono ?_
  rintro e w9 ⟨rfl, hb⟩
  have B9 := Box.mk (B4.out.trans (hb.mono B4.out.size))
  obtain ⟨⟨a0, b0, c0, d0, e0⟩, _⟩ := boot_cells (r := ⟨0, false, ct, s0, s1⟩) ((hb.block z0 (Array.getElem?_eq_some_iff.1 RO4_0.out).1).trans RO4_0.out)
  obtain ⟨⟨a1, b1, c1, d1, e1⟩, _⟩ := boot_cells (r := ⟨0, false, ct, s0, s1⟩) ((hb.block z1 (Array.getElem?_eq_some_iff.1 RO4_1.out).1).trans RO4_1.out)
  obtain ⟨⟨a2, b2, c2, d2, e2⟩, _⟩ := boot_cells (r := ⟨0, false, ct, s0, s1⟩) ((hb.block z2 (Array.getElem?_eq_some_iff.1 RO4_2.out).1).trans RO4_2.out)
  obtain ⟨⟨a3, b3, c3, d3, e3⟩, _⟩ := boot_cells (r := ⟨0, false, ct, s0, s1⟩) ((hb.block z3 (Array.getElem?_eq_some_iff.1 RO4_3.out).1).trans RO4_3.out)
  clear hb
  have hyp := HYP.out
  have w01 : IntKind.i64.wrap (1 - 0) = 1 := by decide
  have w00 : IntKind.i64.wrap (1 - 1) = 0 := by decide
  go_wp2_with fail
  go_ret
  exact ⟨rfl, B9.out⟩
set_option maxHeartbeats 4000000 in
theorem walk_up0 (ct s0 s1 : Int) (hm : BR.May ⟨0, true, 0, s0, s1⟩) (w : World) (a0 : Addr) (hE : ErrAt w a0) : Calls Tryz.prog 3 #[brV ⟨0, true, 0, s0, s1⟩] w fun e w' => e = .returned (.bool true) ∧ Below w.heap.size w w' := by
  have MA := Box.mk (fun w => rmay_any ⟨0, true, 0, s0, s1⟩ w)
  rw [(BR.may_iff _).2 hm] at MA
  have N1 := Box.mk (fun w => next_any ⟨0, true, 0, s0, s1⟩ w)
  have N2 := Box.mk (fun w => next_any ⟨0, true, 1, s0, s1⟩ w)
  have N3 := Box.mk (fun w => next_any ⟨1, false, 0, s0, s1⟩ w)
  rw [next_up] at N1; rw [(next_ov 1 s0 s1 (by omega)).1] at N2; rw [next_no] at N3
  have FX := Box.mk (fun w hE => bfixed_any a0 w hE)
  have HE := Box.mk hE; have GE := Box.mk hE.lt
  have EQ := eq_boot
  have HYP : Box (1 ≤ (2 : Int)) := ⟨by omega⟩
  unfold brV brC at *
  dsimp only at MA N1 N2 N3 ⊢
  obtain ⟨z0, hz0⟩ : ∃ z, z = w.heap.size := ⟨_, rfl⟩
  obtain ⟨W0, hW0⟩ : ∃ W, W = w.alloc (.cells #[.int .i64 0, .bool true, .int .i64 0, .int .i64 s0, .int .i64 s1] 24) := ⟨_, rfl⟩
  have R0 := Box.mk (show W0.heap[z0]? = some (.cells #[.int .i64 0, .bool true, .int .i64 0, .int .i64 s0, .int .i64 s1] 24 (0, 0)) by rw [hW0, hz0]; exact heap_alloc_new _ _)
  have B0 := Box.mk (show Below w.heap.size w W0 by rw [hW0]; exact (Below.refl _ _).alloc (Nat.le_refl _) _)
  clear hm hE
  go_enter Tryz.func3, Tryz.ntmps3
  go_upto_region 1 with (fail)
  rw [← hW0, ← hz0]
  clear hz0 hW0
  obtain ⟨⟨k0, k1, k2, k3, k4⟩, _⟩ := boot_cells (r := ⟨0, true, 0, s0, s1⟩) R0.out
  go_wp2_with fail
  clear k0 k1 k2 k3 k4
  refine (MA.out _).mono ?_
  rintro e w1 ⟨rfl, hb⟩
  have B1 := Box.mk (B0.out.trans (hb.mono B0.out.size))
  have R1 := Box.mk ((hb.block z0 (Array.getElem?_eq_some_iff.1 R0.out).1).trans R0.out)
  clear hb B0 R0 MA
  obtain ⟨⟨k0, k1, k2, k3, k4⟩, _⟩ := boot_cells (r := ⟨0, true, 0, s0, s1⟩) R1.out
  go_wp2_with fail
  clear k0 k1 k2 k3 k4
  refine (N1.out _).mono ?_
  rintro e v1 ⟨rfl, hb⟩
  obtain ⟨z1, hz⟩ : ∃ z, z = v1.heap.size := ⟨_, rfl⟩
  obtain ⟨W1, hW⟩ : ∃ W, W = v1.alloc (.cells #[.int .i64 0, .bool true, .int .i64 1, .int .i64 s0, .int .i64 s1] 24) := ⟨_, rfl⟩
  have RN := Box.mk (show W1.heap[z1]? = some (.cells #[.int .i64 0, .bool true, .int .i64 1, .int .i64 s0, .int .i64 s1] 24 (0, 0)) by rw [hW, hz]; exact heap_alloc_new _ _)
  have hq : Below w1.heap.size w1 W1 := by rw [hW]; exact hb.alloc hb.size _
  have BN := Box.mk (B1.out.trans (hq.mono B1.out.size))
  have RN0 := Box.mk ((hq.block z0 (Array.getElem?_eq_some_iff.1 R1.out).1).trans R1.out)
  go_upto_region 4 with (fail)
  rw [← hW, ← hz]
  clear hW hz hq hb
  have RO2_0 := Box.mk RN0.out
  have RO2_1 := Box.mk RN.out
  have B2 := Box.mk BN.out
  clear RN BN RN0
  obtain ⟨⟨k0, k1, k2, k3, k4⟩, _⟩ := boot_cells (r := ⟨0, true, 1, s0, s1⟩) RO2_1.out
  go_wp2_with fail
  clear k0 k1 k2 k3 k4
  refine (N2.out _).mono ?_
  rintro e v2 ⟨rfl, hb⟩
  obtain ⟨z2, hz⟩ : ∃ z, z = v2.heap.size := ⟨_, rfl⟩
  obtain ⟨W2, hW⟩ : ∃ W, W = v2.alloc (.cells #[.int .i64 1, .bool false, .int .i64 0, .int .i64 s0, .int .i64 s1] 24) := ⟨_, rfl⟩
  have RN := Box.mk (show W2.heap[z2]? = some (.cells #[.int .i64 1, .bool false, .int .i64 0, .int .i64 s0, .int .i64 s1] 24 (0, 0)) by rw [hW, hz]; exact heap_alloc_new _ _)
  have hq : Below W1.heap.size W1 W2 := by rw [hW]; exact hb.alloc hb.size _
  have BN := Box.mk (B2.out.trans (hq.mono B2.out.size))
  have RN0 := Box.mk ((hq.block z0 (Array.getElem?_eq_some_iff.1 RO2_0.out).1).trans RO2_0.out)
  have RN1 := Box.mk ((hq.block z1 (Array.getElem?_eq_some_iff.1 RO2_1.out).1).trans RO2_1.out)
  go_upto_region 5 with (fail)
  rw [← hW, ← hz]
  clear hW hz hq hb
  have RO3_0 := Box.mk RN0.out
  have RO3_1 := Box.mk RN1.out
  have RO3_2 := Box.mk RN.out
  have B3 := Box.mk BN.out
  clear RN BN RN0 RN1
  obtain ⟨⟨k0, k1, k2, k3, k4⟩, _⟩ := boot_cells (r := ⟨1, false, 0, s0, s1⟩) RO3_2.out
  go_wp2_with fail
  clear k0 k1 k2 k3 k4
  refine (N3.out _).mono ?_
  rintro e v3 ⟨rfl, hb⟩
  obtain ⟨z3, hz⟩ : ∃ z, z = v3.heap.size := ⟨_, rfl⟩
  obtain ⟨W3, hW⟩ : ∃ W, W = v3.alloc (.cells #[.int .i64 1, .bool false, .int .i64 0, .int .i64 s0, .int .i64 s1] 24) := ⟨_, rfl⟩
  have RN := Box.mk (show W3.heap[z3]? = some (.cells #[.int .i64 1, .bool false, .int .i64 0, .int .i64 s0, .int .i64 s1] 24 (0, 0)) by rw [hW, hz]; exact heap_alloc_new _ _)
  have hq : Below W2.heap.size W2 W3 := by rw [hW]; exact hb.alloc hb.size _
  have BN := Box.mk (B3.out.trans (hq.mono B3.out.size))
  have RN0 := Box.mk ((hq.block z0 (Array.getElem?_eq_some_iff.1 RO3_0.out).1).trans RO3_0.out)
  have RN1 := Box.mk ((hq.block z1 (Array.getElem?_eq_some_iff.1 RO3_1.out).1).trans RO3_1.out)
  have RN2 := Box.mk ((hq.block z2 (Array.getElem?_eq_some_iff.1 RO3_2.out).1).trans RO3_2.out)
  go_upto_region 6 with (fail)
  rw [← hW, ← hz]
  clear hW hz hq hb
  have RO4_0 := Box.mk RN0.out
  have RO4_1 := Box.mk RN1.out
  have RO4_2 := Box.mk RN2.out
  have RO4_3 := Box.mk RN.out
  have B4 := Box.mk BN.out
  clear RN BN RN0 RN1 RN2
  go_wp2_with fail
  refine (FX.out _ (HE.out.below B4.out GE.out)).mono ?_
  rintro e w9 ⟨rfl, hb⟩
  have B9 := Box.mk (B4.out.trans (hb.mono B4.out.size))
  obtain ⟨⟨a0, b0, c0, d0, e0⟩, _⟩ := boot_cells (r := ⟨0, true, 0, s0, s1⟩) ((hb.block z0 (Array.getElem?_eq_some_iff.1 RO4_0.out).1).trans RO4_0.out)
  obtain ⟨⟨a1, b1, c1, d1, e1⟩, _⟩ := boot_cells (r := ⟨0, true, 1, s0, s1⟩) ((hb.block z1 (Array.getElem?_eq_some_iff.1 RO4_1.out).1).trans RO4_1.out)
  obtain ⟨⟨a2, b2, c2, d2, e2⟩, _⟩ := boot_cells (r := ⟨1, false, 0, s0, s1⟩) ((hb.block z2 (Array.getElem?_eq_some_iff.1 RO4_2.out).1).trans RO4_2.out)
  obtain ⟨⟨a3, b3, c3, d3, e3⟩, _⟩ := boot_cells (r := ⟨1, false, 0, s0, s1⟩) ((hb.block z3 (Array.getElem?_eq_some_iff.1 RO4_3.out).1).trans RO4_3.out)
  clear hb
  have hyp := HYP.out
  have w01 : IntKind.i64.wrap (1 - 0) = 1 := by decide
  have w00 : IntKind.i64.wrap (1 - 1) = 0 := by decide
  go_wp2_with fail
  go_ret
  exact ⟨rfl, B9.out⟩
set_option maxHeartbeats 4000000 in
theorem walk_ov0 (ct s0 s1 : Int) (h1 : 1 ≤ ct) (hm : BR.May ⟨0, true, ct, s0, s1⟩) (w : World) (a0 : Addr) (hE : ErrAt w a0) : Calls Tryz.prog 3 #[brV ⟨0, true, ct, s0, s1⟩] w fun e w' => e = .returned (.bool true) ∧ Below w.heap.size w w' := by
  have MA := Box.mk (fun w => rmay_any ⟨0, true, ct, s0, s1⟩ w)
  rw [(BR.may_iff _).2 hm] at MA
  have N1 := Box.mk (fun w => next_any ⟨0, true, ct, s0, s1⟩ w)
  have N2 := Box.mk (fun w => next_any ⟨1, false, 0, s0, s1⟩ w)
  have N3 := Box.mk (fun w => next_any ⟨1, false, 0, s0, s1⟩ w)
  rw [(next_ov ct s0 s1 h1).1] at N1; rw [next_no] at N2; rw [next_no] at N3
  have FX := Box.mk (fun w hE => bfixed_any a0 w hE)
  have HE := Box.mk hE; have GE := Box.mk hE.lt
  have EQ := eq_boot
  have HYP : Box (1 ≤ ct) := ⟨by omega⟩
  unfold brV brC at *
  dsimp only at MA N1 N2 N3 ⊢
  obtain ⟨z0, hz0⟩ : ∃ z, z = w.heap.size := ⟨_, rfl⟩
  obtain ⟨W0, hW0⟩ : ∃ W, W = w.alloc (.cells #[.int .i64 0, .bool true, .int .i64 ct, .int .i64 s0, .int .i64 s1] 24) := ⟨_, rfl⟩
  have R0 := Box.mk (show W0.heap[z0]? = some (.cells #[.int .i64 0, .bool true, .int .i64 ct, .int .i64 s0, .int .i64 s1] 24 (0, 0)) by rw [hW0, hz0]; exact heap_alloc_new _ _)
  have B0 := Box.mk (show Below w.heap.size w W0 by rw [hW0]; exact (Below.refl _ _).alloc (Nat.le_refl _) _)
  clear hm hE
  go_enter Tryz.func3, Tryz.ntmps3
  go_upto_region 1 with (fail)
  rw [← hW0, ← hz0]
  clear hz0 hW0
  obtain ⟨⟨k0, k1, k2, k3, k4⟩, _⟩ := boot_cells (r := ⟨0, true, ct, s0, s1⟩) R0.out
  go_wp2_with fail
  clear k0 k1 k2 k3 k4
  refine (MA.out _).mono ?_
  rintro e w1 ⟨rfl, hb⟩
  have B1 := Box.mk (B0.out.trans (hb.mono B0.out.size))
  have R1 := Box.mk ((hb.block z0 (Array.getElem?_eq_some_iff.1 R0.out).1).trans R0.out)
  clear hb B0 R0 MA
  obtain ⟨⟨k0, k1, k2, k3, k4⟩, _⟩ := boot_cells (r := ⟨0, true, ct, s0, s1⟩) R1.out
  go_wp2_with fail
  clear k0 k1 k2 k3 k4
  refine (N1.out _).mono ?_
  rintro e v1 ⟨rfl, hb⟩
  obtain ⟨z1, hz⟩ : ∃ z, z = v1.heap.size := ⟨_, rfl⟩
  obtain ⟨W1, hW⟩ : ∃ W, W = v1.alloc (.cells #[.int .i64 1, .bool false, .int .i64 0, .int .i64 s0, .int .i64 s1] 24) := ⟨_, rfl⟩
  have RN := Box.mk (show W1.heap[z1]? = some (.cells #[.int .i64 1, .bool false, .int .i64 0, .int .i64 s0, .int .i64 s1] 24 (0, 0)) by rw [hW, hz]; exact heap_alloc_new _ _)
  have hq : Below w1.heap.size w1 W1 := by rw [hW]; exact hb.alloc hb.size _
  have BN := Box.mk (B1.out.trans (hq.mono B1.out.size))
  have RN0 := Box.mk ((hq.block z0 (Array.getElem?_eq_some_iff.1 R1.out).1).trans R1.out)
  go_upto_region 4 with (fail)
  rw [← hW, ← hz]
  clear hW hz hq hb
  have RO2_0 := Box.mk RN0.out
  have RO2_1 := Box.mk RN.out
  have B2 := Box.mk BN.out
  clear RN BN RN0
  obtain ⟨⟨k0, k1, k2, k3, k4⟩, _⟩ := boot_cells (r := ⟨1, false, 0, s0, s1⟩) RO2_1.out
  go_wp2_with fail
  clear k0 k1 k2 k3 k4
  refine (N2.out _).mono ?_
  rintro e v2 ⟨rfl, hb⟩
  obtain ⟨z2, hz⟩ : ∃ z, z = v2.heap.size := ⟨_, rfl⟩
  obtain ⟨W2, hW⟩ : ∃ W, W = v2.alloc (.cells #[.int .i64 1, .bool false, .int .i64 0, .int .i64 s0, .int .i64 s1] 24) := ⟨_, rfl⟩
  have RN := Box.mk (show W2.heap[z2]? = some (.cells #[.int .i64 1, .bool false, .int .i64 0, .int .i64 s0, .int .i64 s1] 24 (0, 0)) by rw [hW, hz]; exact heap_alloc_new _ _)
  have hq : Below W1.heap.size W1 W2 := by rw [hW]; exact hb.alloc hb.size _
  have BN := Box.mk (B2.out.trans (hq.mono B2.out.size))
  have RN0 := Box.mk ((hq.block z0 (Array.getElem?_eq_some_iff.1 RO2_0.out).1).trans RO2_0.out)
  have RN1 := Box.mk ((hq.block z1 (Array.getElem?_eq_some_iff.1 RO2_1.out).1).trans RO2_1.out)
  go_upto_region 5 with (fail)
  rw [← hW, ← hz]
  clear hW hz hq hb
  have RO3_0 := Box.mk RN0.out
  have RO3_1 := Box.mk RN1.out
  have RO3_2 := Box.mk RN.out
  have B3 := Box.mk BN.out
  clear RN BN RN0 RN1
  obtain ⟨⟨k0, k1, k2, k3, k4⟩, _⟩ := boot_cells (r := ⟨1, false, 0, s0, s1⟩) RO3_2.out
  go_wp2_with fail
  clear k0 k1 k2 k3 k4
  refine (N3.out _).mono ?_
  rintro e v3 ⟨rfl, hb⟩
  obtain ⟨z3, hz⟩ : ∃ z, z = v3.heap.size := ⟨_, rfl⟩
  obtain ⟨W3, hW⟩ : ∃ W, W = v3.alloc (.cells #[.int .i64 1, .bool false, .int .i64 0, .int .i64 s0, .int .i64 s1] 24) := ⟨_, rfl⟩
  have RN := Box.mk (show W3.heap[z3]? = some (.cells #[.int .i64 1, .bool false, .int .i64 0, .int .i64 s0, .int .i64 s1] 24 (0, 0)) by rw [hW, hz]; exact heap_alloc_new _ _)
  have hq : Below W2.heap.size W2 W3 := by rw [hW]; exact hb.alloc hb.size _
  have BN := Box.mk (B3.out.trans (hq.mono B3.out.size))
  have RN0 := Box.mk ((hq.block z0 (Array.getElem?_eq_some_iff.1 RO3_0.out).1).trans RO3_0.out)
  have RN1 := Box.mk ((hq.block z1 (Array.getElem?_eq_some_iff.1 RO3_1.out).1).trans RO3_1.out)
  have RN2 := Box.mk ((hq.block z2 (Array.getElem?_eq_some_iff.1 RO3_2.out).1).trans RO3_2.out)
  go_upto_region 6 with (fail)
  rw [← hW, ← hz]
  clear hW hz hq hb
  have RO4_0 := Box.mk RN0.out
  have RO4_1 := Box.mk RN1.out
  have RO4_2 := Box.mk RN2.out
  have RO4_3 := Box.mk RN.out
  have B4 := Box.mk BN.out
  clear RN BN RN0 RN1 RN2
  go_wp2_with fail
  refine (FX.out _ (HE.out.below B4.out GE.out)).mono ?_
  rintro e w9 ⟨rfl, hb⟩
  have B9 := Box.mk (B4.out.trans (hb.mono B4.out.size))
  obtain ⟨⟨a0, b0, c0, d0, e0⟩, _⟩ := boot_cells (r := ⟨0, true, ct, s0, s1⟩) ((hb.block z0 (Array.getElem?_eq_some_iff.1 RO4_0.out).1).trans RO4_0.out)
  obtain ⟨⟨a1, b1, c1, d1, e1⟩, _⟩ := boot_cells (r := ⟨1, false, 0, s0, s1⟩) ((hb.block z1 (Array.getElem?_eq_some_iff.1 RO4_1.out).1).trans RO4_1.out)
  obtain ⟨⟨a2, b2, c2, d2, e2⟩, _⟩ := boot_cells (r := ⟨1, false, 0, s0, s1⟩) ((hb.block z2 (Array.getElem?_eq_some_iff.1 RO4_2.out).1).trans RO4_2.out)
  obtain ⟨⟨a3, b3, c3, d3, e3⟩, _⟩ := boot_cells (r := ⟨1, false, 0, s0, s1⟩) ((hb.block z3 (Array.getElem?_eq_some_iff.1 RO4_3.out).1).trans RO4_3.out)
  clear hb
  have hyp := HYP.out
  have w01 : IntKind.i64.wrap (1 - 0) = 1 := by decide
  have w00 : IntKind.i64.wrap (1 - 1) = 0 := by decide
  go_wp2_with fail
  go_ret
  exact ⟨rfl, B9.out⟩
set_option maxHeartbeats 4000000 in
theorem walk_no1 (ct s0 s1 : Int) (hm : BR.May ⟨1, false, ct, s0, s1⟩) (w : World) (a0 : Addr) (hE : ErrAt w a0) : Calls Tryz.prog 3 #[brV ⟨1, false, ct, s0, s1⟩] w fun e w' => e = .returned (.bool true) ∧ Below w.heap.size w w' := by
  have MA := Box.mk (fun w => rmay_any ⟨1, false, ct, s0, s1⟩ w)
  rw [(BR.may_iff _).2 hm] at MA
  have N1 := Box.mk (fun w => next_any ⟨1, false, ct, s0, s1⟩ w)
  have N2 := Box.mk (fun w => next_any ⟨1, false, ct, s0, s1⟩ w)
  have N3 := Box.mk (fun w => next_any ⟨1, false, ct, s0, s1⟩ w)
  rw [next_no] at N1; rw [next_no] at N2; rw [next_no] at N3
  have FX := Box.mk (fun w hE => bfixed_any a0 w hE)
  have HE := Box.mk hE; have GE := Box.mk hE.lt
  have EQ := eq_boot
  have HYP : Box (1 ≤ (2 : Int)) := ⟨by omega⟩
  unfold brV brC at *
  dsimp only at MA N1 N2 N3 ⊢
  obtain ⟨z0, hz0⟩ : ∃ z, z = w.heap.size := ⟨_, rfl⟩
  obtain ⟨W0, hW0⟩ : ∃ W, W = w.alloc (.cells #[.int .i64 1, .bool false, .int .i64 ct, .int .i64 s0, .int .i64 s1] 24) := ⟨_, rfl⟩
  have R0 := Box.mk (show W0.heap[z0]? = some (.cells #[.int .i64 1, .bool false, .int .i64 ct, .int .i64 s0, .int .i64 s1] 24 (0, 0)) by rw [hW0, hz0]; exact heap_alloc_new _ _)
  have B0 := Box.mk (show Below w.heap.size w W0 by rw [hW0]; exact (Below.refl _ _).alloc (Nat.le_refl _) _)
  clear hm hE
  go_enter Tryz.func3, Tryz.ntmps3
  go_upto_region 1 with (fail)
  rw [← hW0, ← hz0]
  clear hz0 hW0
  obtain ⟨⟨k0, k1, k2, k3, k4⟩, _⟩ := boot_cells (r := ⟨1, false, ct, s0, s1⟩) R0.out
  go_wp2_with fail
  clear k0 k1 k2 k3 k4
  refine (MA.out _).mono ?_
  rintro e w1 ⟨rfl, hb⟩
  have B1 := Box.mk (B0.out.trans (hb.mono B0.out.size))
  have R1 := Box.mk ((hb.block z0 (Array.getElem?_eq_some_iff.1 R0.out).1).trans R0.out)
  clear hb B0 R0 MA
  obtain ⟨⟨k0, k1, k2, k3, k4⟩, _⟩ := boot_cells (r := ⟨1, false, ct, s0, s1⟩) R1.out
  go_wp2_with fail
  clear k0 k1 k2 k3 k4
  refine (N1.out _).mono ?_
  rintro e v1 ⟨rfl, hb⟩
  obtain ⟨z1, hz⟩ : ∃ z, z = v1.heap.size := ⟨_, rfl⟩
  obtain ⟨W1, hW⟩ : ∃ W, W = v1.alloc (.cells #[.int .i64 1, .bool false, .int .i64 ct, .int .i64 s0, .int .i64 s1] 24) := ⟨_, rfl⟩
  have RN := Box.mk (show W1.heap[z1]? = some (.cells #[.int .i64 1, .bool false, .int .i64 ct, .int .i64 s0, .int .i64 s1] 24 (0, 0)) by rw [hW, hz]; exact heap_alloc_new _ _)
  have hq : Below w1.heap.size w1 W1 := by rw [hW]; exact hb.alloc hb.size _
  have BN := Box.mk (B1.out.trans (hq.mono B1.out.size))
  have RN0 := Box.mk ((hq.block z0 (Array.getElem?_eq_some_iff.1 R1.out).1).trans R1.out)
  go_upto_region 4 with (fail)
  rw [← hW, ← hz]
  clear hW hz hq hb
  have RO2_0 := Box.mk RN0.out
  have RO2_1 := Box.mk RN.out
  have B2 := Box.mk BN.out
  clear RN BN RN0
  obtain ⟨⟨k0, k1, k2, k3, k4⟩, _⟩ := boot_cells (r := ⟨1, false, ct, s0, s1⟩) RO2_1.out
  go_wp2_with fail
  clear k0 k1 k2 k3 k4
  refine (N2.out _).mono ?_
  rintro e v2 ⟨rfl, hb⟩
  obtain ⟨z2, hz⟩ : ∃ z, z = v2.heap.size := ⟨_, rfl⟩
  obtain ⟨W2, hW⟩ : ∃ W, W = v2.alloc (.cells #[.int .i64 1, .bool false, .int .i64 ct, .int .i64 s0, .int .i64 s1] 24) := ⟨_, rfl⟩
  have RN := Box.mk (show W2.heap[z2]? = some (.cells #[.int .i64 1, .bool false, .int .i64 ct, .int .i64 s0, .int .i64 s1] 24 (0, 0)) by rw [hW, hz]; exact heap_alloc_new _ _)
  have hq : Below W1.heap.size W1 W2 := by rw [hW]; exact hb.alloc hb.size _
  have BN := Box.mk (B2.out.trans (hq.mono B2.out.size))
  have RN0 := Box.mk ((hq.block z0 (Array.getElem?_eq_some_iff.1 RO2_0.out).1).trans RO2_0.out)
  have RN1 := Box.mk ((hq.block z1 (Array.getElem?_eq_some_iff.1 RO2_1.out).1).trans RO2_1.out)
  go_upto_region 5 with (fail)
  rw [← hW, ← hz]
  clear hW hz hq hb
  have RO3_0 := Box.mk RN0.out
  have RO3_1 := Box.mk RN1.out
  have RO3_2 := Box.mk RN.out
  have B3 := Box.mk BN.out
  clear RN BN RN0 RN1
  obtain ⟨⟨k0, k1, k2, k3, k4⟩, _⟩ := boot_cells (r := ⟨1, false, ct, s0, s1⟩) RO3_2.out
  go_wp2_with fail
  clear k0 k1 k2 k3 k4
  refine (N3.out _).mono ?_
  rintro e v3 ⟨rfl, hb⟩
  obtain ⟨z3, hz⟩ : ∃ z, z = v3.heap.size := ⟨_, rfl⟩
  obtain ⟨W3, hW⟩ : ∃ W, W = v3.alloc (.cells #[.int .i64 1, .bool false, .int .i64 ct, .int .i64 s0, .int .i64 s1] 24) := ⟨_, rfl⟩
  have RN := Box.mk (show W3.heap[z3]? = some (.cells #[.int .i64 1, .bool false, .int .i64 ct, .int .i64 s0, .int .i64 s1] 24 (0, 0)) by rw [hW, hz]; exact heap_alloc_new _ _)
  have hq : Below W2.heap.size W2 W3 := by rw [hW]; exact hb.alloc hb.size _
  have BN := Box.mk (B3.out.trans (hq.mono B3.out.size))
  have RN0 := Box.mk ((hq.block z0 (Array.getElem?_eq_some_iff.1 RO3_0.out).1).trans RO3_0.out)
  have RN1 := Box.mk ((hq.block z1 (Array.getElem?_eq_some_iff.1 RO3_1.out).1).trans RO3_1.out)
  have RN2 := Box.mk ((hq.block z2 (Array.getElem?_eq_some_iff.1 RO3_2.out).1).trans RO3_2.out)
  go_upto_region 6 with (fail)
  rw [← hW, ← hz]
  clear hW hz hq hb
  have RO4_0 := Box.mk RN0.out
  have RO4_1 := Box.mk RN1.out
  have RO4_2 := Box.mk RN2.out
  have RO4_3 := Box.mk RN.out
  have B4 := Box.mk BN.out
  clear RN BN RN0 RN1 RN2
  go_wp2_with fail
  refine (FX.out _ (HE.out.below B4.out GE.out)).mono ?_
  rintro e w9 ⟨rfl, hb⟩
  have B9 := Box.mk (B4.out.trans (hb.mono B4.out.size))
  obtain ⟨⟨a0, b0, c0, d0, e0⟩, _⟩ := boot_cells (r := ⟨1, false, ct, s0, s1⟩) ((hb.block z0 (Array.getElem?_eq_some_iff.1 RO4_0.out).1).trans RO4_0.out)
  obtain ⟨⟨a1, b1, c1, d1, e1⟩, _⟩ := boot_cells (r := ⟨1, false, ct, s0, s1⟩) ((hb.block z1 (Array.getElem?_eq_some_iff.1 RO4_1.out).1).trans RO4_1.out)
  obtain ⟨⟨a2, b2, c2, d2, e2⟩, _⟩ := boot_cells (r := ⟨1, false, ct, s0, s1⟩) ((hb.block z2 (Array.getElem?_eq_some_iff.1 RO4_2.out).1).trans RO4_2.out)
  obtain ⟨⟨a3, b3, c3, d3, e3⟩, _⟩ := boot_cells (r := ⟨1, false, ct, s0, s1⟩) ((hb.block z3 (Array.getElem?_eq_some_iff.1 RO4_3.out).1).trans RO4_3.out)
  clear hb
  have hyp := HYP.out
  have w01 : IntKind.i64.wrap (1 - 0) = 1 := by decide
  have w00 : IntKind.i64.wrap (1 - 1) = 0 := by decide
  go_wp2_with fail
  go_ret
  exact ⟨rfl, B9.out⟩
set_option maxHeartbeats 4000000 in
theorem walk_up1 (ct s0 s1 : Int) (hm : BR.May ⟨1, true, 0, s0, s1⟩) (w : World) (a0 : Addr) (hE : ErrAt w a0) : Calls Tryz.prog 3 #[brV ⟨1, true, 0, s0, s1⟩] w fun e w' => e = .returned (.bool true) ∧ Below w.heap.size w w' := by
  have MA := Box.mk (fun w => rmay_any ⟨1, true, 0, s0, s1⟩ w)
  rw [(BR.may_iff _).2 hm] at MA
  have N1 := Box.mk (fun w => next_any ⟨1, true, 0, s0, s1⟩ w)
  have N2 := Box.mk (fun w => next_any ⟨1, true, 1, s0, s1⟩ w)
  have N3 := Box.mk (fun w => next_any ⟨0, false, 0, s0, s1⟩ w)
  rw [next_up] at N1; rw [(next_ov 1 s0 s1 (by omega)).2] at N2; rw [next_no] at N3
  have FX := Box.mk (fun w hE => bfixed_any a0 w hE)
  have HE := Box.mk hE; have GE := Box.mk hE.lt
  have EQ := eq_boot
  have HYP : Box (1 ≤ (2 : Int)) := ⟨by omega⟩
  unfold brV brC at *
  dsimp only at MA N1 N2 N3 ⊢
  obtain ⟨z0, hz0⟩ : ∃ z, z = w.heap.size := ⟨_, rfl⟩
  obtain ⟨W0, hW0⟩ : ∃ W, W = w.alloc (.cells #[.int .i64 1, .bool true, .int .i64 0, .int .i64 s0, .int .i64 s1] 24) := ⟨_, rfl⟩
  have R0 := Box.mk (show W0.heap[z0]? = some (.cells #[.int .i64 1, .bool true, .int .i64 0, .int .i64 s0, .int .i64 s1] 24 (0, 0)) by rw [hW0, hz0]; exact heap_alloc_new _ _)
  have B0 := Box.mk (show Below w.heap.size w W0 by rw [hW0]; exact (Below.refl _ _).alloc (Nat.le_refl _) _)
  clear hm hE
  go_enter Tryz.func3, Tryz.ntmps3
  go_upto_region 1 with (fail)
  rw [← hW0, ← hz0]
  clear hz0 hW0
  obtain ⟨⟨k0, k1, k2, k3, k4⟩, _⟩ := boot_cells (r := ⟨1, true, 0, s0, s1⟩) R0.out
  go_wp2_with fail
  clear k0 k1 k2 k3 k4
  refine (MA.out _).mono ?_
  rintro e w1 ⟨rfl, hb⟩
  have B1 := Box.mk (B0.out.trans (hb.mono B0.out.size))
  have R1 := Box.mk ((hb.block z0 (Array.getElem?_eq_some_iff.1 R0.out).1).trans R0.out)
  clear hb B0 R0 MA
  obtain ⟨⟨k0, k1, k2, k3, k4⟩, _⟩ := boot_cells (r := ⟨1, true, 0, s0, s1⟩) R1.out
  go_wp2_with fail
  clear k0 k1 k2 k3 k4
  refine (N1.out _).mono ?_
  rintro e v1 ⟨rfl, hb⟩
  obtain ⟨z1, hz⟩ : ∃ z, z = v1.heap.size := ⟨_, rfl⟩
  obtain ⟨W1, hW⟩ : ∃ W, W = v1.alloc (.cells #[.int .i64 1, .bool true, .int .i64 1, .int .i64 s0, .int .i64 s1] 24) := ⟨_, rfl⟩
  have RN := Box.mk (show W1.heap[z1]? = some (.cells #[.int .i64 1, .bool true, .int .i64 1, .int .i64 s0, .int .i64 s1] 24 (0, 0)) by rw [hW, hz]; exact heap_alloc_new _ _)
  have hq : Below w1.heap.size w1 W1 := by rw [hW]; exact hb.alloc hb.size _
  have BN := Box.mk (B1.out.trans (hq.mono B1.out.size))
  have RN0 := Box.mk ((hq.block z0 (Array.getElem?_eq_some_iff.1 R1.out).1).trans R1.out)
  go_upto_region 4 with (fail)
  rw [← hW, ← hz]
  clear hW hz hq hb
  have RO2_0 := Box.mk RN0.out
  have RO2_1 := Box.mk RN.out
  have B2 := Box.mk BN.out
  clear RN BN RN0
  obtain ⟨⟨k0, k1, k2, k3, k4⟩, _⟩ := boot_cells (r := ⟨1, true, 1, s0, s1⟩) RO2_1.out
  go_wp2_with fail
  clear k0 k1 k2 k3 k4
  refine (N2.out _).mono ?_
  rintro e v2 ⟨rfl, hb⟩
  obtain ⟨z2, hz⟩ : ∃ z, z = v2.heap.size := ⟨_, rfl⟩
  obtain ⟨W2, hW⟩ : ∃ W, W = v2.alloc (.cells #[.int .i64 0, .bool false, .int .i64 0, .int .i64 s0, .int .i64 s1] 24) := ⟨_, rfl⟩
  have RN := Box.mk (show W2.heap[z2]? = some (.cells #[.int .i64 0, .bool false, .int .i64 0, .int .i64 s0, .int .i64 s1] 24 (0, 0)) by rw [hW, hz]; exact heap_alloc_new _ _)
  have hq : Below W1.heap.size W1 W2 := by rw [hW]; exact hb.alloc hb.size _
  have BN := Box.mk (B2.out.trans (hq.mono B2.out.size))
  have RN0 := Box.mk ((hq.block z0 (Array.getElem?_eq_some_iff.1 RO2_0.out).1).trans RO2_0.out)
  have RN1 := Box.mk ((hq.block z1 (Array.getElem?_eq_some_iff.1 RO2_1.out).1).trans RO2_1.out)
  go_upto_region 5 with (fail)
  rw [← hW, ← hz]
  clear hW hz hq hb
  have RO3_0 := Box.mk RN0.out
  have RO3_1 := Box.mk RN1.out
  have RO3_2 := Box.mk RN.out
  have B3 := Box.mk BN.out
  clear RN BN RN0 RN1
  obtain ⟨⟨k0, k1, k2, k3, k4⟩, _⟩ := boot_cells (r := ⟨0, false, 0, s0, s1⟩) RO3_2.out
  go_wp2_with fail
  clear k0 k1 k2 k3 k4
  refine (N3.out _).mono ?_
  rintro e v3 ⟨rfl, hb⟩
  obtain ⟨z3, hz⟩ : ∃ z, z = v3.heap.size := ⟨_, rfl⟩
  obtain ⟨W3, hW⟩ : ∃ W, W = v3.alloc (.cells #[.int .i64 0, .bool false, .int .i64 0, .int .i64 s0, .int .i64 s1] 24) := ⟨_, rfl⟩
  have RN := Box.mk (show W3.heap[z3]? = some (.cells #[.int .i64 0, .bool false, .int .i64 0, .int .i64 s0, .int .i64 s1] 24 (0, 0)) by rw [hW, hz]; exact heap_alloc_new _ _)
  have hq : Below W2.heap.size W2 W3 := by rw [hW]; exact hb.alloc hb.size _
  have BN := Box.mk (B3.out.trans (hq.mono B3.out.size))
  have RN0 := Box.mk ((hq.block z0 (Array.getElem?_eq_some_iff.1 RO3_0.out).1).trans RO3_0.out)
  have RN1 := Box.mk ((hq.block z1 (Array.getElem?_eq_some_iff.1 RO3_1.out).1).trans RO3_1.out)
  have RN2 := Box.mk ((hq.block z2 (Array.getElem?_eq_some_iff.1 RO3_2.out).1).trans RO3_2.out)
  go_upto_region 6 with (fail)
  rw [← hW, ← hz]
  clear hW hz hq hb
  have RO4_0 := Box.mk RN0.out
  have RO4_1 := Box.mk RN1.out
  have RO4_2 := Box.mk RN2.out
  have RO4_3 := Box.mk RN.out
  have B4 := Box.mk BN.out
  clear RN BN RN0 RN1 RN2
  go_wp2_with fail
  refine (FX.out _ (HE.out.below B4.out GE.out)).mono ?_
  rintro e w9 ⟨rfl, hb⟩
  have B9 := Box.mk (B4.out.trans (hb.mono B4.out.size))
  obtain ⟨⟨a0, b0, c0, d0, e0⟩, _⟩ := boot_cells (r := ⟨1, true, 0, s0, s1⟩) ((hb.block z0 (Array.getElem?_eq_some_iff.1 RO4_0.out).1).trans RO4_0.out)
  obtain ⟨⟨a1, b1, c1, d1, e1⟩, _⟩ := boot_cells (r := ⟨1, true, 1, s0, s1⟩) ((hb.block z1 (Array.getElem?_eq_some_iff.1 RO4_1.out).1).trans RO4_1.out)
  obtain ⟨⟨a2, b2, c2, d2, e2⟩, _⟩ := boot_cells (r := ⟨0, false, 0, s0, s1⟩) ((hb.block z2 (Array.getElem?_eq_some_iff.1 RO4_2.out).1).trans RO4_2.out)
  obtain ⟨⟨a3, b3, c3, d3, e3⟩, _⟩ := boot_cells (r := ⟨0, false, 0, s0, s1⟩) ((hb.block z3 (Array.getElem?_eq_some_iff.1 RO4_3.out).1).trans RO4_3.out)
  clear hb
  have hyp := HYP.out
  have w01 : IntKind.i64.wrap (1 - 0) = 1 := by decide
  have w00 : IntKind.i64.wrap (1 - 1) = 0 := by decide
  go_wp2_with fail
  go_ret
  exact ⟨rfl, B9.out⟩
set_option maxHeartbeats 4000000 in
theorem walk_ov1 (ct s0 s1 : Int) (h1 : 1 ≤ ct) (hm : BR.May ⟨1, true, ct, s0, s1⟩) (w : World) (a0 : Addr) (hE : ErrAt w a0) : Calls Tryz.prog 3 #[brV ⟨1, true, ct, s0, s1⟩] w fun e w' => e = .returned (.bool true) ∧ Below w.heap.size w w' := by
  have MA := Box.mk (fun w => rmay_any ⟨1, true, ct, s0, s1⟩ w)
  rw [(BR.may_iff _).2 hm] at MA
  have N1 := Box.mk (fun w => next_any ⟨1, true, ct, s0, s1⟩ w)
  have N2 := Box.mk (fun w => next_any ⟨0, false, 0, s0, s1⟩ w)
  have N3 := Box.mk (fun w => next_any ⟨0, false, 0, s0, s1⟩ w)
  rw [(next_ov ct s0 s1 h1).2] at N1; rw [next_no] at N2; rw [next_no] at N3
  have FX := Box.mk (fun w hE => bfixed_any a0 w hE)
  have HE := Box.mk hE; have GE := Box.mk hE.lt
  have EQ := eq_boot
  have HYP : Box (1 ≤ ct) := ⟨by omega⟩
  unfold brV brC at *
  dsimp only at MA N1 N2 N3 ⊢
  obtain ⟨z0, hz0⟩ : ∃ z, z = w.heap.size := ⟨_, rfl⟩
  obtain ⟨W0, hW0⟩ : ∃ W, W = w.alloc (.cells #[.int .i64 1, .bool true, .int .i64 ct, .int .i64 s0, .int .i64 s1] 24) := ⟨_, rfl⟩
  have R0 := Box.mk (show W0.heap[z0]? = some (.cells #[.int .i64 1, .bool true, .int .i64 ct, .int .i64 s0, .int .i64 s1] 24 (0, 0)) by rw [hW0, hz0]; exact heap_alloc_new _ _)
  have B0 := Box.mk (show Below w.heap.size w W0 by rw [hW0]; exact (Below.refl _ _).alloc (Nat.le_refl _) _)
  clear hm hE
  go_enter Tryz.func3, Tryz.ntmps3
  go_upto_region 1 with (fail)
  rw [← hW0, ← hz0]
  clear hz0 hW0
  obtain ⟨⟨k0, k1, k2, k3, k4⟩, _⟩ := boot_cells (r := ⟨1, true, ct, s0, s1⟩) R0.out
  go_wp2_with fail
  clear k0 k1 k2 k3 k4
  refine (MA.out _).mono ?_
  rintro e w1 ⟨rfl, hb⟩
  have B1 := Box.mk (B0.out.trans (hb.mono B0.out.size))
  have R1 := Box.mk ((hb.block z0 (Array.getElem?_eq_some_iff.1 R0.out).1).trans R0.out)
  clear hb B0 R0 MA
  obtain ⟨⟨k0, k1, k2, k3, k4⟩, _⟩ := boot_cells (r := ⟨1, true, ct, s0, s1⟩) R1.out
  go_wp2_with fail
  clear k0 k1 k2 k3 k4
  refine (N1.out _).mono ?_
  rintro e v1 ⟨rfl, hb⟩
  obtain ⟨z1, hz⟩ : ∃ z, z = v1.heap.size := ⟨_, rfl⟩
  obtain ⟨W1, hW⟩ : ∃ W, W = v1.alloc (.cells #[.int .i64 0, .bool false, .int .i64 0, .int .i64 s0, .int .i64 s1] 24) := ⟨_, rfl⟩
  have RN := Box.mk (show W1.heap[z1]? = some (.cells #[.int .i64 0, .bool false, .int .i64 0, .int .i64 s0, .int .i64 s1] 24 (0, 0)) by rw [hW, hz]; exact heap_alloc_new _ _)
  have hq : Below w1.heap.size w1 W1 := by rw [hW]; exact hb.alloc hb.size _
  have BN := Box.mk (B1.out.trans (hq.mono B1.out.size))
  have RN0 := Box.mk ((hq.block z0 (Array.getElem?_eq_some_iff.1 R1.out).1).trans R1.out)
  go_upto_region 4 with (fail)
  rw [← hW, ← hz]
  clear hW hz hq hb
  have RO2_0 := Box.mk RN0.out
  have RO2_1 := Box.mk RN.out
  have B2 := Box.mk BN.out
  clear RN BN RN0
  obtain ⟨⟨k0, k1, k2, k3, k4⟩, _⟩ := boot_cells (r := ⟨0, false, 0, s0, s1⟩) RO2_1.out
  go_wp2_with fail
  clear k0 k1 k2 k3 k4
  refine (N2.out _).mono ?_
  rintro e v2 ⟨rfl, hb⟩
  obtain ⟨z2, hz⟩ : ∃ z, z = v2.heap.size := ⟨_, rfl⟩
  obtain ⟨W2, hW⟩ : ∃ W, W = v2.alloc (.cells #[.int .i64 0, .bool false, .int .i64 0, .int .i64 s0, .int .i64 s1] 24) := ⟨_, rfl⟩
  have RN := Box.mk (show W2.heap[z2]? = some (.cells #[.int .i64 0, .bool false, .int .i64 0, .int .i64 s0, .int .i64 s1] 24 (0, 0)) by rw [hW, hz]; exact heap_alloc_new _ _)
  have hq : Below W1.heap.size W1 W2 := by rw [hW]; exact hb.alloc hb.size _
  have BN := Box.mk (B2.out.trans (hq.mono B2.out.size))
  have RN0 := Box.mk ((hq.block z0 (Array.getElem?_eq_some_iff.1 RO2_0.out).1).trans RO2_0.out)
  have RN1 := Box.mk ((hq.block z1 (Array.getElem?_eq_some_iff.1 RO2_1.out).1).trans RO2_1.out)
  go_upto_region 5 with (fail)
  rw [← hW, ← hz]
  clear hW hz hq hb
  have RO3_0 := Box.mk RN0.out
  have RO3_1 := Box.mk RN1.out
  have RO3_2 := Box.mk RN.out
  have B3 := Box.mk BN.out
  clear RN BN RN0 RN1
  obtain ⟨⟨k0, k1, k2, k3, k4⟩, _⟩ := boot_cells (r := ⟨0, false, 0, s0, s1⟩) RO3_2.out
  go_wp2_with fail
  clear k0 k1 k2 k3 k4
  refine (N3.out _).mono ?_
  rintro e v3 ⟨rfl, hb⟩
  obtain ⟨z3, hz⟩ : ∃ z, z = v3.heap.size := ⟨_, rfl⟩
  obtain ⟨W3, hW⟩ : ∃ W, W = v3.alloc (.cells #[.int .i64 0, .bool false, .int .i64 0, .int .i64 s0, .int .i64 s1] 24) := ⟨_, rfl⟩
  have RN := Box.mk (show W3.heap[z3]? = some (.cells #[.int .i64 0, .bool false, .int .i64 0, .int .i64 s0, .int .i64 s1] 24 (0, 0)) by rw [hW, hz]; exact heap_alloc_new _ _)
  have hq : Below W2.heap.size W2 W3 := by rw [hW]; exact hb.alloc hb.size _
  have BN := Box.mk (B3.out.trans (hq.mono B3.out.size))
  have RN0 := Box.mk ((hq.block z0 (Array.getElem?_eq_some_iff.1 RO3_0.out).1).trans RO3_0.out)
  have RN1 := Box.mk ((hq.block z1 (Array.getElem?_eq_some_iff.1 RO3_1.out).1).trans RO3_1.out)
  have RN2 := Box.mk ((hq.block z2 (Array.getElem?_eq_some_iff.1 RO3_2.out).1).trans RO3_2.out)
  go_upto_region 6 with (fail)
  rw [← hW, ← hz]
  clear hW hz hq hb
  have RO4_0 := Box.mk RN0.out
  have RO4_1 := Box.mk RN1.out
  have RO4_2 := Box.mk RN2.out
  have RO4_3 := Box.mk RN.out
  have B4 := Box.mk BN.out
  clear RN BN RN0 RN1 RN2
  go_wp2_with fail
  refine (FX.out _ (HE.out.below B4.out GE.out)).mono ?_
  rintro e w9 ⟨rfl, hb⟩
  have B9 := Box.mk (B4.out.trans (hb.mono B4.out.size))
  obtain ⟨⟨a0, b0, c0, d0, e0⟩, _⟩ := boot_cells (r := ⟨1, true, ct, s0, s1⟩) ((hb.block z0 (Array.getElem?_eq_some_iff.1 RO4_0.out).1).trans RO4_0.out)
  obtain ⟨⟨a1, b1, c1, d1, e1⟩, _⟩ := boot_cells (r := ⟨0, false, 0, s0, s1⟩) ((hb.block z1 (Array.getElem?_eq_some_iff.1 RO4_1.out).1).trans RO4_1.out)
  obtain ⟨⟨a2, b2, c2, d2, e2⟩, _⟩ := boot_cells (r := ⟨0, false, 0, s0, s1⟩) ((hb.block z2 (Array.getElem?_eq_some_iff.1 RO4_2.out).1).trans RO4_2.out)
  obtain ⟨⟨a3, b3, c3, d3, e3⟩, _⟩ := boot_cells (r := ⟨0, false, 0, s0, s1⟩) ((hb.block z3 (Array.getElem?_eq_some_iff.1 RO4_3.out).1).trans RO4_3.out)
  clear hb
  have hyp := HYP.out
  have w01 : IntKind.i64.wrap (1 - 0) = 1 := by decide
  have w00 : IntKind.i64.wrap (1 - 1) = 0 := by decide
  go_wp2_with fail
  go_ret
  exact ⟨rfl, B9.out⟩
theorem walk (r : BR) (wr : r.Wf) (w : World) (a0 : Addr) (hE : ErrAt w a0) : Calls Tryz.prog 3 #[brV r] w fun e w' => e = .returned (.bool true) ∧ Below w.heap.size w w' := by
  by_cases hm : r.May
  · obtain ⟨sl, up, ct, s0, s1⟩ := r
    have h1 := hm.slot; have h2 := hm.count
    dsimp only at h1 h2
    cases up with
    | false =>
      rcases h1 with rfl | rfl
      · exact walk_no0 ct s0 s1 hm w a0 hE
      · exact walk_no1 ct s0 s1 hm w a0 hE
    | true =>
      by_cases h0 : ct = 0
      · subst h0
        rcases h1 with rfl | rfl
        · exact walk_up0 0 s0 s1 hm w a0 hE
        · exact walk_up1 0 s0 s1 hm w a0 hE
      · rcases h1 with rfl | rfl
        · exact walk_ov0 ct s0 s1 (by omega) hm w a0 hE
        · exact walk_ov1 ct s0 s1 (by omega) hm w a0 hE
  · have MA := Box.mk (fun w => rmay_any r w)
    rw [(BR.may_no r).2 hm] at MA
    have FX := Box.mk (fun w hE => bfixed_any a0 w hE)
    have HE := Box.mk hE; have GE := Box.mk hE.lt
    unfold brV brC at *
    have B0 := Box.mk ((Below.refl _ w).alloc (Nat.le_refl _) (.cells #[.int .i64 r.slot, .bool r.up, .int .i64 r.count, .int .i64 r.s0, .int .i64 r.s1] 24))
    clear hm hE
    go_enter Tryz.func3, Tryz.ntmps3
    go_wp2_with fail
    refine (MA.out _).mono ?_
    rintro e w1 ⟨rfl, hb⟩
    have B1 := Box.mk (B0.out.trans (hb.mono B0.out.size))
    clear hb
    go_wp2_with fail
    refine (FX.out _ (HE.out.below B1.out GE.out)).mono ?_
    rintro e w9 ⟨rfl, hb⟩
    have B9 := Box.mk (B1.out.trans (hb.mono B1.out.size))
    clear hb
    go_wp2_with fail
    go_ret
    exact ⟨rfl, B9.out⟩
theorem own : ownKnob Tryz.prog.godebug = none := by kernel_rfl
theorem laidOut : laidOutB Tryz.prog = true := by kernel_rfl
theorem gE : Tryz.prog.globalNamed "farrier/boot.errNone" = some 0 := by kernel_rfl
theorem gEType : (Tryz.prog.globals[0]?).map (·.type) = some 93 := by kernel_rfl
theorem cellsS : Tryz.prog.cellsOf 174 = 1 := by kernel_rfl
theorem cells9 : Tryz.prog.cellsOf 9 = 1 := by kernel_rfl
theorem star : "*" ++ "errors.errorString" = "*errors.errorString" := by decide
theorem rowE (u : TypeId) (h : Tryz.prog.typeName? 3 u = some "*errors.errorString") : u = 152 :=
  typeName_ptr_named (nm := "errors.errorString") (by rw [star]; kernel_rfl) (by kernel_rfl) (by decide) u (by rw [star]; exact h)
noncomputable def low : Nat := (World.holding Tryz.prog default ⟨#[], #[], []⟩).heap.size
noncomputable def laidWorld (os : Os) : World :=
  let w0 := World.holding Tryz.prog os ⟨#[.cells #[.string ⟨#[110, 111, 32, 114, 101, 99, 111, 114, 100]⟩] 174], #[], []⟩
  { w0 with heap := w0.heap.modify 0 fun
      | .cells _ t frozen => .cells #[.iface 152 (.pointer (some ⟨low, 0, none⟩))] t frozen
      | o => o }
theorem laid_met (os : Os) (args : Array Value) : laidMet Tryz.prog Rows.bootTriesRow.laid ((laidWorld os).forCall (fun _ _ => 0) ⟨#[], args, []⟩).memory :=
  laidMet_of_run (ps := [.cell 0 0, .cell low 0]) 8 (by kernel_rfl) (by kernel_rfl) (by kernel_rfl)
theorem contract (H : Type) (enc : TypeId × Value → H) (W : World) (base : Nat) (args : Array Value) (ds gs : List (DataW H)) (before : List MemPlace)
    (hval0 : ∀ (j : Nat) t v, Tryz.f3.params[j]? = some t → args[j]? = some v → Value.okWide Tryz.prog W .any base t v)
    (hW : DataW.Whole enc Tryz.prog Tryz.f3.params.toList Rows.bootTriesSpec.vars false W args.toList ds gs before) (hL : laidMetH Tryz.prog Rows.bootTriesRow.laid W) :
    Calls Tryz.prog 3 args W fun e W' => ∃ v, e = .returned v ∧ Rows.bootTriesSpec.post enc Tryz.prog Tryz.f3 false true false false W args v W' := by
  have hval : ∀ (j : Nat) t v, Tryz.f3.params[j]? = some t → args[j]? = some v → Value.okWide Tryz.prog W .any base t v := hval0
  obtain ⟨a0, s9, hv9, hc9, hs9, hz9⟩ := laid_sentinel hL gE gEType Tryz.underlying93 rowE Tryz.underlying152 Tryz.underlying174 rfl rfl Tryz.underlying9 cellsS cells9
  have hE : ErrAt W a0 := by unfold ErrAt; simpa using World.var?_cell gE hv9 0
  have hW' := hW
  obtain ⟨p, q, hA0, hV, rfl, hfz, hnd⟩ := hW
  have hA : DataW.TrodAll enc Tryz.prog W 0 (fun _ => true) true Tryz.f3.params.toList args.toList ds p := hA0
  rw [Tryz.params3] at hA hval
  obtain ⟨v0, vs0, d0, ds0, p0, q0, hargs, rfl, rfl, h0, r0⟩ := trodAll_cons hA
  obtain ⟨rfl, rfl, rfl⟩ := trodAll_nil r0
  obtain rfl : args = #[v0] := by cases args; simp_all
  obtain ⟨rfl, rfl⟩ := trodVars_none hV
  obtain ⟨r0, rfl, wr0⟩ := open_boot (hval 0 24 v0 rfl rfl) h0
  clear hA0 hval0
  refine (walk r0 wr0 W a0 hE).mono fun e W' ⟨he, bel⟩ => ?_
  subst he
  exact ⟨_, rfl, _, _, _, [], _, [], hW', trodAll_mk1 (shut_bool Tryz.underlying4 _), (trodAll_cons_mk (Below.trod laidOut (by kernel_rfl) (of_decide_eq_true (by kernel_rfl)) h0 bel (by obtain ⟨f, hf⟩ := h0; exact DataW.trod_lt _ _ _ _ hf)) trodAll_mk0), rfl, bel.frame _, fun h => by cases h⟩
set_option maxRecDepth 100000 in
theorem lifted (os : Os) (started : os.Started) (H : Type) (enc : TypeId × Value → H) (F : Stop.Interp) :
    ReturnsInHanded {} Tryz.checked os 3 .any ((OpenSpec.ofChange Rows.bootTriesSpec).preRow enc Tryz.prog Tryz.f3 Rows.bootTriesRow.domain false Rows.bootTriesRow.laid) (((OpenSpec.ofChange Rows.bootTriesSpec).at F).post enc Tryz.prog Tryz.f3 false true false false) := by
  refine returnsInHanded_of_row (C := Tryz.checked) (s := OpenSpec.ofChange Rows.bootTriesSpec) own started (by kernel_rfl) Tryz.func3
    (witness_row_at (enc := enc) (C := Tryz.checked) false (laidWorld os) #[brV BR.zero] rfl (by kernel_rfl) (by kernel_rfl) (by kernel_rfl)
      (OpenSpec.preRow_of_B rfl 8 (by kernel_rfl) (by kernel_rfl) (laid_met os _))) ?_
  intro W base args ds gs before hval hW _ _ _ hL _ _
  exact contract H enc W base args ds gs before hval hW hL
set_option maxRecDepth 100000 in
theorem said : Rows.BootTriesSaid :=
  OpenClaim.holds_of_cond 3 Tryz.f3 rfl rfl rfl rfl rfl rfl rfl ⟨rfl, rfl, rfl, rfl, rfl⟩ rfl rfl rfl rfl rfl (by kernel_rfl) Tryz.func3 (by kernel_rfl)
    (of_decide_eq_true (by kernel_rfl)) (by unfold Func.isWrapper; first | (rw [if_pos (by decide +kernel)]; kernel_rfl) | (rw [if_neg (by decide +kernel)]; exact ⟨rfl, rfl⟩))
    (fun os started H enc _ F => by rw [OpenClaim.pre_eq_preRow]; exact lifted os started H enc F)
theorem plain (f : FuncId) (fn : Func) (hf : Tryz.pinned.checked.prog.funcNamed "farrier/farrierlaw13.BootTries" = some f) (hfn : Tryz.pinned.checked.prog.funcs[f]? = some fn) :
    true = Tryz.pinned.checked.prog.looks [] ∧ ∀ (j : Nat) t, fn.params[j]? = some t → Tryz.pinned.checked.prog.wantsStandIn t = false := by
  obtain rfl : f = 3 := Option.some.inj ((show Tryz.prog.funcNamed "farrier/farrierlaw13.BootTries" = some 3 by kernel_rfl).symm.trans hf) |>.symm
  obtain rfl : fn = Tryz.f3 := (Option.some.inj (Tryz.func3.symm.trans hfn)).symm
  refine ⟨by kernel_rfl, fun j t ht => ?_⟩
  rw [Tryz.params3] at ht
  have hall : (Tryz.f3.params.toList.all fun t => !Tryz.prog.wantsStandIn t) = true := by kernel_rfl
  rw [Tryz.params3] at hall
  have := List.all_eq_true.1 hall t (by simpa using Array.mem_of_getElem? ht)
  show Tryz.prog.wantsStandIn t = false
  simpa using this
theorem proved : Rows.BootTriesCardSaid :=
  Claim7.holds_tied_plain_at .later [] _ _ _ _ said (fun _ h => by cases h) (by kernel_rfl) (fun _ h => by cases h) bootTries_row_tie rfl ⟨rfl, rfl⟩ (by kernel_rfl) rfl plain (by kernel_rfl)
#print axioms proved
end Go.Proofs.YtgcbmjflodgnbaaGreatDoor.bootTries
