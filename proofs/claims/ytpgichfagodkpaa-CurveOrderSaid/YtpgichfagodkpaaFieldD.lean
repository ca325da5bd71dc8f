/- The package limbs: Add, Sub, Small, Neg. -/
import Derived.Test.YtpgichfagodkpaaFieldC
namespace Go.Proofs.Ytpgichfagodkpaa.Fe
set_option linter.unusedVariables false
open Go Go.RowKit


set_option maxRecDepth 100000 in
set_option maxHeartbeats 2000000 in
theorem sub_any (f g : Nat → Nat) (hf : Lim 2 f) (hg : Lim 2 g) (w : World) :
    Calls Try.prog 52 #[.agg (ecell f), .agg (ecell g)] w fun e w' => ∃ h, e = .returned (.agg (ecell h)) ∧ Lim 2 h ∧ lv h % fp = lv (subF f g 5) % fp ∧ Below w.heap.size w w' := by
  have hz := zeroE
  obtain ⟨W0, hW0⟩ : ∃ W, W = ((w.alloc (.cells (ecell f) 41)).alloc (.cells (ecell g) 41)).alloc (.cells z5 41) := ⟨_, rfl⟩
  have g0 : W0.heap[w.heap.size]? = some (.cells (ecell (subF f g 0)) 41 (0, 0)) := by rw [hW0, heap_alloc_old _ _ (by simp; omega), heap_alloc_old _ _ (by simp)]; exact heap_alloc_new _ _
  have g1 : W0.heap[w.heap.size + 1]? = some (.cells (ecell g) 41 (0, 0)) := by
    have := heap_alloc_new (w.alloc (.cells (ecell f) 41)) (.cells (ecell g) 41)
    rw [World.size_alloc] at this
    rw [hW0, heap_alloc_old _ _ (by simp)]; exact this
  have g2 : W0.heap[w.heap.size + 2]? = some (.cells (ecell f0) 41 (0, 0)) := by
    have := heap_alloc_new ((w.alloc (.cells (ecell f) 41)).alloc (.cells (ecell g) 41)) (.cells z5 41)
    rw [World.size_alloc, World.size_alloc] at this
    rw [hW0]; exact this
  have b0 : Below w.heap.size w W0 := by rw [hW0]; go_grown
  have G0 := Box.mk g0; have G1 := Box.mk g1; have G2 := Box.mk g2; have B0 := Box.mk b0; have HF := Box.mk hf; have HG := Box.mk hg
  clear g0 g1 g2 b0 hf hg
  go_enter Try.func52, Try.ntmps52
  go_wp2_with fail
  rw [← hW0]
  clear hW0 hz
  go_loopw [5, 6, 7] (fun _ _ i wr => ∃ j : Nat, j ≤ 5 ∧ i = .int .i64 j ∧ wr.heap[w.heap.size]? = some (.cells (ecell (subF f g j)) 41 (0, 0)) ∧ wr.heap[w.heap.size + 1]? = some (.cells (ecell g) 41 (0, 0)) ∧ wr.heap[w.heap.size + 2]? = some (.cells (ecell f0) 41 (0, 0)) ∧ Below w.heap.size w wr) (fun _ _ i _ => (5 - intOf i).toNat)
  case atStart => exact ⟨0, by omega, rfl, G0.out, G1.out, G2.out, B0.out⟩
  case round =>
    clear G0 G1 G2 B0
    obtain ⟨j, hj, rfl, ha, hb, hr, hbel⟩ := hrel
    by_cases hjl : j < 5
    · have hjI : (j : Int) < 5 := by omega
      have bf := HF.out.lt52 j hjl
      have bg := HG.out.lt52 j hjl
      have c0 : wr.cell? ⟨w.heap.size, j, none⟩ = some (.int .u64 (f j : Nat)) := by rw [cell_of_row _ _ _ _ _ _ ha, ecell_get _ _ hjl, subF_at]
      have c1 : wr.cell? ⟨w.heap.size + 1, j, none⟩ = some (.int .u64 (g j : Nat)) := by rw [cell_of_row _ _ _ _ _ _ hb]; exact ecell_get _ _ hjl
      have z0 : wr.frozen? ⟨w.heap.size, j, none⟩ = false := frozen_of_row _ _ _ _ _ ha
      have hst := subF_step f g j
      have HSET := Box.mk (ecell_set (subF f g j) j hjl)
      obtain ⟨mm, hmm⟩ : ∃ mm, mm = mr j := ⟨_, rfl⟩
      obtain ⟨u, hu⟩ : ∃ u, u = mm - g j := ⟨_, rfl⟩
      obtain ⟨x, hx⟩ : ∃ x, x = f j + u := ⟨_, rfl⟩
      have hmb : 9007199254740916 ≤ mm ∧ mm ≤ 9007199254740988 := by rw [hmm]; unfold mr; split <;> omega
      rw [← hmm, ← hu, ← hx] at hst
      have huI : IntKind.u64.wrap ((mm : Int) - ((g j : Nat) : Int)) = (u : Int) := by rw [IntKind.wrap_u64]; omega
      have hxI : IntKind.u64.wrap (((f j : Nat) : Int) + (u : Int)) = (x : Int) := by rw [IntKind.wrap_u64]; omega
      have HST := Box.mk hst
      generalize f j = y0 at c0 hxI hx
      generalize g j = y1 at c1 hxI hx hu huI
      have HA := Box.mk ha; have HB := Box.mk hb; have HR := Box.mk hr; have HBEL := Box.mk hbel
      clear ha hb hr hbel hst hx bf bg
      clear hu
      have hw1 : IntKind.u64.wrap (9007199254740988 - 72) = 9007199254740916 := by rw [IntKind.wrap_u64]; omega
      by_cases hj0 : j = 0
      case' pos =>
        have hm0 : mm = 9007199254740916 := by rw [hmm, hj0]; rfl
        have hjb : ((j : Int) == 0) = true := by simp; omega
        subst hm0
        simp only [Int.cast_ofNat_Int] at huI
        clear hj0 hmm
        go_wp2_with fail
      case' neg =>
        have hm0 : mm = 9007199254740988 := by rw [hmm]; unfold mr; rw [if_neg hj0]
        have hjb : ((j : Int) == 0) = false := by rw [beq_eq_false_iff_ne]; omega
        subst hm0
        simp only [Int.cast_ofNat_Int] at huI
        clear hj0 hmm
        go_wp2_with fail
      all_goals
        go_region
        go_wp2
        refine ⟨⟨j + 1, by omega, by go_num, ?_, ?_, ?_, (HBEL.out.setCell (Nat.le_refl _) _).drew⟩, by simp [intOf]; omega⟩
        · rw [heap_drew, heap_setCell_same _ _ _ _ _ _ HA.out, HSET.out x _ rfl, HST.out]
        · rw [heap_drew, heap_setCell_other _ _ _ _ (by simp)]; exact HB.out
        · rw [heap_drew, heap_setCell_other _ _ _ _ (by simp)]; exact HR.out
    · obtain rfl : j = 5 := by omega
      have HA := Box.mk ha; have HR := Box.mk hr; have HBEL := Box.mk hbel
      clear ha hb hr hbel
      go_wp2_with ((with_reducible refine wpList_loadE rfl (.tmp 2) rfl w.heap.size (subF f g 5) HA.out ?_ ?_); rfl)
      refine (carried_any 0 (subF f g 5) (subF_lim HF.out) _).mono ?_
      rintro e w2 ⟨h, rfl, hl, hv, hb2⟩
      have hr2 : w2.heap[w.heap.size + 2]? = some (.cells (ecell f0) 41 (0, 0)) := (hb2.block _ (Array.getElem?_eq_some_iff.1 HR.out).1).trans HR.out
      have HR2 := Box.mk hr2; have HL := Box.mk hl; have HV := Box.mk hv; have HB2 := Box.mk (HBEL.out.trans (hb2.mono HBEL.out.size))
      clear hr2 hl hv hb2
      go_wp2_with ((with_reducible refine wpList_storeE rfl (.tmp 4) (.tmp 26) rfl (w.heap.size + 2) h f0 HR2.out ?_ ?_ ?_); rfl; rfl)
      go_frame
      refine bodyPost_ret (results_cell_row (p := 4) (ty := 41) rfl _ _ (w.heap.size + 2) 41 (ecell h) (0, 0) _ rfl (setRow_heap _ _ _ _ _ _ HR2.out) Try.underlying41 rfl (by kernel_rfl)) rfl ⟨h, rfl, HL.out, HV.out, ?_⟩
      exact below_setRow HB2.out (by omega) _
end Go.Proofs.Ytpgichfagodkpaa.Fe
