/- The document's numbers: Small. -/
import Derived.Test.YtpgichfagodkpaaFieldR
import Derived.Deep.Cut
namespace Go.Proofs.Ytpgichfagodkpaa.Fe
set_option linter.unusedVariables false
open Go Go.RowKit

def smN (n : Nat) : Nat → Nat := upd (upd f0 0 (n % 65536)) 1 (n / 65536)
theorem smN_dig (n : Nat) (h : n < 4294967296) : Dig (smN n) := fun j hj => by simp only [smN, upd, f0]; split <;> (try split) <;> omega
theorem smN_nv (n : Nat) : nv (smN n) = n := by
  unfold nv smN
  simp only [pn, upd, f0, dw]
  simp
  omega
set_option maxRecDepth 100000 in
set_option maxHeartbeats 2000000 in
theorem smallN_any (n : Nat) (hn : n < 4294967296) (w : World) : Calls Try.prog 39 #[.int .i64 n] w fun e w' => e = .returned (.agg (ncell (smN n))) ∧ Below w.heap.size w w' := by
  have hz := zeroN
  have h0 : ((w.alloc (.cells (ncell f0) 48)).alloc (.cells (ncell f0) 48)).heap[w.heap.size + 1]? = some (.cells (ncell f0) 48 (0, 0)) := by
    have := heap_alloc_new (w.alloc (.cells (ncell f0) 48)) (.cells (ncell f0) 48)
    rwa [World.size_alloc] at this
  have H0 := Box.mk h0
  have hr0 : ((w.alloc (.cells (ncell f0) 48)).alloc (.cells (ncell f0) 48)).heap[w.heap.size]? = some (.cells (ncell f0) 48 (0, 0)) := by
    rw [heap_alloc_old _ _ (by simp)]; exact heap_alloc_new _ _
  have HR0 := Box.mk hr0
  have hb0 : Below w.heap.size w ((w.alloc (.cells (ncell f0) 48)).alloc (.cells (ncell f0) 48)) := by go_grown
  have HB0 := Box.mk hb0
  clear h0 hr0 hb0
  obtain ⟨W1, hW1⟩ : ∃ W, W = ((w.alloc (.cells (ncell f0) 48)).alloc (.cells (ncell f0) 48)).setRow (w.heap.size + 1) (ncell f0) := ⟨_, rfl⟩
  have q0 : W1.heap[w.heap.size + 1]? = some (.cells (ncell f0) 48 (0, 0)) := by rw [hW1]; exact setRow_heap _ _ _ _ _ _ H0.out
  have q1 : W1.heap[w.heap.size]? = some (.cells (ncell f0) 48 (0, 0)) := by rw [hW1, setRow_other _ _ _ _ (by omega)]; exact HR0.out
  have q2 : Below w.heap.size w W1 := by rw [hW1]; exact below_setRow HB0.out (by omega) _
  go_enter Try.func39, Try.ntmps39
  go_upto_region 2 with ((with_reducible refine wpList_storeN rfl (.tmp 3) (.tmp 4) rfl (w.heap.size + 1) f0 f0 H0.out ?_ ?_ ?_); rfl; rfl)
  go_frame
  rw [← hW1]
  clear hW1 H0 HR0 HB0 hz
  obtain ⟨q, hq⟩ : ∃ q, q = n / 65536 := ⟨_, rfl⟩
  obtain ⟨r, hr⟩ : ∃ r, r = n % 65536 := ⟨_, rfl⟩
  have hdiv : (n : Int) / 65536 = (q : Int) := by omega
  have hmod : (n : Int) % 65536 = (r : Int) := by omega
  have HQ := Box.mk hq; have HR := Box.mk hr
  clear hq hr
  have c0 : W1.cell? ⟨w.heap.size + 1, 0, none⟩ = some (.int .i64 (f0 0 : Nat)) := by rw [cell_of_row _ _ _ _ _ _ q0]; exact ncell_get _ _ (by omega)
  have c1 : W1.cell? ⟨w.heap.size + 1, 1, none⟩ = some (.int .i64 (f0 1 : Nat)) := by rw [cell_of_row _ _ _ _ _ _ q0]; exact ncell_get _ _ (by omega)
  have z0 : W1.frozen? ⟨w.heap.size + 1, 0, none⟩ = false := frozen_of_row _ _ _ _ _ q0
  have z1 : W1.frozen? ⟨w.heap.size + 1, 1, none⟩ = false := frozen_of_row _ _ _ _ _ q0
  obtain ⟨W2, hW2⟩ : ∃ W, W = (W1.setCell ⟨w.heap.size + 1, 0, none⟩ (.int .i64 (r : Int))).setCell ⟨w.heap.size + 1, 1, none⟩ (.int .i64 (q : Int)) := ⟨_, rfl⟩
  have e0 : W2.heap[w.heap.size + 1]? = some (.cells (ncell (smN n)) 48 (0, 0)) := by
    rw [hW2, heap_setCell_same _ _ _ _ _ _ (heap_setCell_same _ _ _ _ _ _ q0), ncell_set _ 0 (by omega) r _ rfl, ncell_set _ 1 (by omega) q _ rfl, HR.out, HQ.out]; rfl
  have e1 : W2.heap[w.heap.size]? = some (.cells (ncell f0) 48 (0, 0)) := by
    rw [hW2, heap_setCell_other _ _ _ _ (by simp), heap_setCell_other _ _ _ _ (by simp)]; exact q1
  have e2 : Below w.heap.size w W2 := by rw [hW2]; exact (q2.setCell (by simp) _).setCell (by simp) _
  have E0 := Box.mk e0; have E1 := Box.mk e1; have E2 := Box.mk e2
  clear q0 q1 q2 e0 e1 e2
  go_upto_region 4 with (fail)
  rw [← hW2]
  clear hW2 c0 c1 z0 z1
  go_wp2_with (first
    | ((with_reducible refine wpList_loadN rfl (.tmp 3) rfl (w.heap.size + 1) (smN n) E0.out ?_ ?_); rfl)
    | ((with_reducible refine wpList_storeN rfl (.tmp 2) (.tmp 11) rfl w.heap.size (smN n) f0 E1.out ?_ ?_ ?_); rfl; rfl))
  go_frame
  refine bodyPost_ret (results_cell_row (p := 2) (ty := 48) rfl _ _ w.heap.size 48 (ncell (smN n)) (0, 0) _ rfl (setRow_heap _ _ _ _ _ _ E1.out) Try.underlying48 rfl (by kernel_rfl)) rfl ⟨rfl, ?_⟩
  exact below_setRow E2.out (Nat.le_refl _) _
end Go.Proofs.Ytpgichfagodkpaa.Fe
