/- The document's numbers: Plus. -/
import Derived.Test.YtpgichfagodkpaaFieldQ
import Derived.Test.YtpgichfagodkpaaFieldC
namespace Go.Proofs.Ytpgichfagodkpaa.Fe
set_option linter.unusedVariables false
open Go Go.RowKit

theorem addF_pn (f g : Nat → Nat) : ∀ k m, k ≤ m → pn (addF f g m) k = pn f k + pn g k
  | 0, _, _ => rfl
  | k + 1, m, h => by
    rw [pn, pn, pn, addF_pn f g k m (by omega)]
    have : addF f g m k = f k + g k := by simp only [addF]; rw [if_pos (by omega)]
    rw [this, Nat.mul_add]; omega
theorem addF_nv (f g : Nat → Nat) : nv (addF f g 16) = nv f + nv g := addF_pn f g 16 16 (Nat.le_refl _)
set_option maxRecDepth 100000 in
set_option maxHeartbeats 2000000 in
theorem plus_any (f g : Nat → Nat) (hf : Dig f) (hg : Dig g) (w : World) :
    Calls Try.prog 61 #[.agg (ncell f), .agg (ncell g)] w fun e w' => ∃ h, e = .returned (.agg (ncell h)) ∧ Dig h ∧ nv h = (nv f + nv g) % fp ∧ Below w.heap.size w w' := by
  have hz := zeroN
  obtain ⟨W0, hW0⟩ : ∃ W, W = ((w.alloc (.cells (ncell f) 48)).alloc (.cells (ncell g) 48)).alloc (.cells (ncell f0) 48) := ⟨_, rfl⟩
  have g0 : W0.heap[w.heap.size]? = some (.cells (ncell (addF f g 0)) 48 (0, 0)) := by rw [hW0, heap_alloc_old _ _ (by simp; omega), heap_alloc_old _ _ (by simp)]; exact heap_alloc_new _ _
  have g1 : W0.heap[w.heap.size + 1]? = some (.cells (ncell g) 48 (0, 0)) := by
    have := heap_alloc_new (w.alloc (.cells (ncell f) 48)) (.cells (ncell g) 48)
    rw [World.size_alloc] at this
    rw [hW0, heap_alloc_old _ _ (by simp)]; exact this
  have g2 : W0.heap[w.heap.size + 2]? = some (.cells (ncell f0) 48 (0, 0)) := by
    have := heap_alloc_new ((w.alloc (.cells (ncell f) 48)).alloc (.cells (ncell g) 48)) (.cells (ncell f0) 48)
    rw [World.size_alloc, World.size_alloc] at this
    rw [hW0]; exact this
  have b0 : Below w.heap.size w W0 := by rw [hW0]; go_grown
  have G0 := Box.mk g0; have G1 := Box.mk g1; have G2 := Box.mk g2; have B0 := Box.mk b0; have HF := Box.mk hf; have HG := Box.mk hg
  clear g0 g1 g2 b0 hf hg
  go_enter Try.func61, Try.ntmps61
  go_wp2_with fail
  rw [← hW0]
  clear hW0 hz
  go_loopw [5] (fun i wr => ∃ j : Nat, j ≤ 16 ∧ i = .int .i64 j ∧ wr.heap[w.heap.size]? = some (.cells (ncell (addF f g j)) 48 (0, 0)) ∧ wr.heap[w.heap.size + 1]? = some (.cells (ncell g) 48 (0, 0)) ∧ wr.heap[w.heap.size + 2]? = some (.cells (ncell f0) 48 (0, 0)) ∧ Below w.heap.size w wr) (fun i _ => (16 - intOf i).toNat)
  case atStart => exact ⟨0, by omega, rfl, G0.out, G1.out, G2.out, B0.out⟩
  case round =>
    clear G0 G1 G2 B0
    obtain ⟨j, hj, rfl, ha, hb, hr, hbel⟩ := hrel
    by_cases hjl : j < 16
    · have hjI : (j : Int) < 16 := by omega
      have bf := HF.out j hjl
      have bg := HG.out j hjl
      have c0 : wr.cell? ⟨w.heap.size, j, none⟩ = some (.int .i64 (f j : Nat)) := by rw [cell_of_row _ _ _ _ _ _ ha, ncell_get _ _ hjl, addF_at]
      have c1 : wr.cell? ⟨w.heap.size + 1, j, none⟩ = some (.int .i64 (g j : Nat)) := by rw [cell_of_row _ _ _ _ _ _ hb]; exact ncell_get _ _ hjl
      have z0 : wr.frozen? ⟨w.heap.size, j, none⟩ = false := frozen_of_row _ _ _ _ _ ha
      have hst := addF_step f g j
      have HSET := Box.mk (ncell_set (addF f g j) j hjl)
      obtain ⟨x, hx⟩ : ∃ x, x = f j + g j := ⟨_, rfl⟩
      rw [← hx] at hst
      have hxI : ((f j : Nat) : Int) + ((g j : Nat) : Int) = (x : Int) := by omega
      have HST := Box.mk hst
      have hbx : (x : Int) < 131072 := by omega
      generalize f j = y0 at c0 hxI hx
      generalize g j = y1 at c1 hxI hx
      have HA := Box.mk ha; have HB := Box.mk hb; have HR := Box.mk hr; have HBEL := Box.mk hbel
      clear ha hb hr hbel hst hx bf bg
      have hw : IntKind.i64.wrap ((y0 : Int) + (y1 : Int)) = (x : Int) := by rw [IntKind.wrap_i64]; omega
      go_wp2_with fail
      go_region
      go_wp2
      refine ⟨⟨j + 1, by omega, by go_num, ?_, ?_, ?_, (HBEL.out.setCell (Nat.le_refl _) _).drew⟩, by simp [intOf]; omega⟩
      · rw [heap_drew, heap_setCell_same _ _ _ _ _ _ HA.out, HSET.out x _ rfl, HST.out]
      · rw [heap_drew, heap_setCell_other _ _ _ _ (by simp)]; exact HB.out
      · rw [heap_drew, heap_setCell_other _ _ _ _ (by simp)]; exact HR.out
    · obtain rfl : j = 16 := by omega
      have HA := Box.mk ha; have HR := Box.mk hr; have HBEL := Box.mk hbel
      clear ha hb hr hbel
      go_wp2_with ((with_reducible refine wpList_loadN rfl (.tmp 2) rfl w.heap.size (addF f g 16) HA.out ?_ ?_); rfl)
      refine (mod_any (addF f g 16) (fun j hj => by have := HF.out j hj; have := HG.out j hj; simp only [addF]; rw [if_pos hj]; omega) _).mono ?_
      rintro e w2 ⟨h, rfl, hd, hv, hb2⟩
      rw [addF_nv] at hv
      have hr2 : w2.heap[w.heap.size + 2]? = some (.cells (ncell f0) 48 (0, 0)) := (hb2.block _ (Array.getElem?_eq_some_iff.1 HR.out).1).trans HR.out
      have HR2 := Box.mk hr2; have HL := Box.mk hd; have HV := Box.mk hv; have HB2 := Box.mk (HBEL.out.trans (hb2.mono HBEL.out.size))
      clear hr2 hd hv hb2
      go_wp2_with ((with_reducible refine wpList_storeN rfl (.tmp 4) (.tmp 19) rfl (w.heap.size + 2) h f0 HR2.out ?_ ?_ ?_); rfl; rfl)
      go_frame
      refine bodyPost_ret (results_cell_row (p := 4) (ty := 48) rfl _ _ (w.heap.size + 2) 48 (ncell h) (0, 0) _ rfl (setRow_heap _ _ _ _ _ _ HR2.out) Try.underlying48 rfl (by kernel_rfl)) rfl ⟨h, rfl, HL.out, HV.out, ?_⟩
      exact below_setRow HB2.out (by omega) _
end Go.Proofs.Ytpgichfagodkpaa.Fe
