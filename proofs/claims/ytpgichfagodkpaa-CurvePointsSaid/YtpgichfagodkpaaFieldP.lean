/- The document's numbers: P, Small. -/
import Derived.Test.YtpgichfagodkpaaFieldO
import Derived.Deep.Cut
namespace Go.Proofs.Ytpgichfagodkpaa.Fe
set_option linter.unusedVariables false
open Go Go.RowKit

/-- The first k digits 65535. -/
def onesF (k : Nat) : Nat → Nat := fun j => if j < k then 65535 else 0
theorem onesF_step (k : Nat) : upd (onesF k) k 65535 = onesF (k + 1) := by
  funext j; simp only [upd, onesF]
  by_cases h : j = k
  · subst h; simp
  · rw [if_neg h]
    by_cases h2 : j < k
    · rw [if_pos h2, if_pos (by omega)]
    · rw [if_neg h2, if_neg (by omega)]
def pF : Nat → Nat := upd (upd (onesF 16) 0 65517) 15 32767
theorem pF_dig : Dig pF := fun j hj => by simp only [pF, upd, onesF]; split <;> (try split) <;> (try split) <;> omega
theorem pF_nv : nv pF = fp := by rw [fp_eq]; decide
theorem onesF_zero : onesF 0 = f0 := rfl
set_option maxRecDepth 100000 in
set_option maxHeartbeats 2000000 in
theorem p_any (w : World) : Calls Try.prog 64 #[] w fun e w' => e = .returned (.agg (ncell pF)) ∧ Below w.heap.size w w' := by
  have hz := zeroN
  have h0 : ((w.alloc (.cells (ncell f0) 48)).alloc (.cells (ncell f0) 48)).heap[w.heap.size + 1]? = some (.cells (ncell f0) 48 (0, 0)) := by
    have := heap_alloc_new (w.alloc (.cells (ncell f0) 48)) (.cells (ncell f0) 48)
    rwa [World.size_alloc] at this
  have H0 := Box.mk h0
  have hr0 : ((w.alloc (.cells (ncell f0) 48)).alloc (.cells (ncell f0) 48)).heap[w.heap.size]? = some (.cells (ncell f0) 48 (0, 0)) := by
    rw [heap_alloc_old _ _ (by simp)]; exact heap_alloc_new _ _
  have HR0 := Box.mk hr0
  have hb0 : Below w.heap.size w ((w.alloc (.cells (ncell f0) 48)).alloc (.cells (ncell f0) 48)) := by go_grown
  have HB0 := Box.mk hb0
  clear h0 hr0 hb0
  obtain ⟨W1, hW1⟩ : ∃ W, W = ((w.alloc (.cells (ncell f0) 48)).alloc (.cells (ncell f0) 48)).setRow (w.heap.size + 1) (ncell f0) := ⟨_, rfl⟩
  have q0 : W1.heap[w.heap.size + 1]? = some (.cells (ncell (onesF 0)) 48 (0, 0)) := by rw [hW1]; exact setRow_heap _ _ _ _ _ _ H0.out
  have q1 : W1.heap[w.heap.size]? = some (.cells (ncell f0) 48 (0, 0)) := by rw [hW1, setRow_other _ _ _ _ (by omega)]; exact HR0.out
  have q2 : Below w.heap.size w W1 := by rw [hW1]; exact below_setRow HB0.out (by omega) _
  have Q0 := Box.mk q0; have Q1 := Box.mk q1; have Q2 := Box.mk q2
  clear q0 q1 q2
  go_enter Try.func64, Try.ntmps64
  go_upto_region 2 with ((with_reducible refine wpList_storeN rfl (.tmp 1) (.tmp 3) rfl (w.heap.size + 1) f0 f0 H0.out ?_ ?_ ?_); rfl; rfl)
  go_frame
  rw [← hW1]
  clear hW1 H0 HR0 HB0 hz
  go_wp2_with fail
  go_loopw [2] (fun i wr => ∃ k : Nat, k ≤ 16 ∧ i = .int .i64 k ∧ wr.heap[w.heap.size + 1]? = some (.cells (ncell (onesF k)) 48 (0, 0)) ∧ wr.heap[w.heap.size]? = some (.cells (ncell f0) 48 (0, 0)) ∧ Below w.heap.size w wr) (fun i _ => (16 - intOf i).toNat)
  case atStart => exact ⟨0, by omega, rfl, Q0.out, Q1.out, Q2.out⟩
  case round =>
    clear Q0 Q1 Q2
    obtain ⟨k, hk, rfl, ha, hr, hb⟩ := hrel
    by_cases hkl : k < 16
    · have hkI : (k : Int) < 16 := by omega
      have c0 : wr.cell? ⟨w.heap.size + 1, k, none⟩ = some (.int .i64 (onesF k k : Nat)) := by rw [cell_of_row _ _ _ _ _ _ ha]; exact ncell_get _ _ hkl
      have z0 : wr.frozen? ⟨w.heap.size + 1, k, none⟩ = false := frozen_of_row _ _ _ _ _ ha
      have HA := Box.mk ha; have HR := Box.mk hr; have HB := Box.mk hb
      clear ha hr hb
      go_wp2
      refine ⟨⟨k + 1, by omega, by go_num, ?_, ?_, HB.out.setCell (by simp) _⟩, by simp [intOf]; omega⟩
      · rw [heap_setCell_same _ _ _ _ _ _ HA.out, ncell_set _ _ hkl 65535 65535 rfl, onesF_step]
      · rw [heap_setCell_other _ _ _ _ (by simp)]; exact HR.out
    · obtain rfl : k = 16 := by omega
      have c0 : wr.cell? ⟨w.heap.size + 1, 0, none⟩ = some (.int .i64 (onesF 16 0 : Nat)) := by rw [cell_of_row _ _ _ _ _ _ ha]; exact ncell_get _ _ (by omega)
      have c1 : wr.cell? ⟨w.heap.size + 1, 15, none⟩ = some (.int .i64 (onesF 16 15 : Nat)) := by rw [cell_of_row _ _ _ _ _ _ ha]; exact ncell_get _ _ (by omega)
      have z0 : wr.frozen? ⟨w.heap.size + 1, 0, none⟩ = false := frozen_of_row _ _ _ _ _ ha
      have z1 : wr.frozen? ⟨w.heap.size + 1, 15, none⟩ = false := frozen_of_row _ _ _ _ _ ha
      obtain ⟨W2, hW2⟩ : ∃ W, W = (wr.setCell ⟨w.heap.size + 1, 0, none⟩ (.int .i64 65517)).setCell ⟨w.heap.size + 1, 15, none⟩ (.int .i64 32767) := ⟨_, rfl⟩
      have e0 : W2.heap[w.heap.size + 1]? = some (.cells (ncell pF) 48 (0, 0)) := by
        rw [hW2, heap_setCell_same _ _ _ _ _ _ (heap_setCell_same _ _ _ _ _ _ ha), ncell_set _ 0 (by omega) 65517 65517 rfl, ncell_set _ 15 (by omega) 32767 32767 rfl]; rfl
      have e1 : W2.heap[w.heap.size]? = some (.cells (ncell f0) 48 (0, 0)) := by
        rw [hW2, heap_setCell_other _ _ _ _ (by simp), heap_setCell_other _ _ _ _ (by simp)]; exact hr
      have e2 : Below w.heap.size w W2 := by rw [hW2]; exact (hb.setCell (by simp) _).setCell (by simp) _
      have E0 := Box.mk e0; have E1 := Box.mk e1; have E2 := Box.mk e2
      clear ha hr hb e0 e1 e2
      go_upto_region 8 with (fail)
      rw [← hW2]
      clear hW2 c0 c1 z0 z1
      go_wp2_with (first
        | ((with_reducible refine wpList_loadN rfl (.tmp 1) rfl (w.heap.size + 1) pF E0.out ?_ ?_); rfl)
        | ((with_reducible refine wpList_storeN rfl (.tmp 0) (.tmp 12) rfl w.heap.size pF f0 E1.out ?_ ?_ ?_); rfl; rfl))
      go_frame
      refine bodyPost_ret (results_cell_row (p := 0) (ty := 48) rfl _ _ w.heap.size 48 (ncell pF) (0, 0) _ rfl (setRow_heap _ _ _ _ _ _ E1.out) Try.underlying48 rfl (by kernel_rfl)) rfl ⟨rfl, ?_⟩
      exact below_setRow E2.out (Nat.le_refl _) _
end Go.Proofs.Ytpgichfagodkpaa.Fe
