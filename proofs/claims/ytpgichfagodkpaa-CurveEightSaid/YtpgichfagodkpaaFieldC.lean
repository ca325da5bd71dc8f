/- The package limbs: Add, Sub, Small, Neg. -/
import Derived.Test.YtpgichfagodkpaaFieldB
namespace Go.Proofs.Ytpgichfagodkpaa.Fe
set_option linter.unusedVariables false
open Go Go.RowKit

def addF (f g : Nat → Nat) (i : Nat) : Nat → Nat := fun j => if j < i then f j + g j else f j
theorem addF_step (f g : Nat → Nat) (i : Nat) : upd (addF f g i) i (f i + g i) = addF f g (i + 1) := by
  funext j; unfold upd addF
  by_cases h : j = i
  · subst h; simp
  · rw [if_neg h]
    by_cases h2 : j < i
    · rw [if_pos h2, if_pos (by omega)]
    · rw [if_neg h2, if_neg (by omega)]
theorem addF_at (f g : Nat → Nat) (i : Nat) : addF f g i i = f i := by simp [addF]
theorem addF_lv (f g : Nat → Nat) : lv (addF f g 5) = lv f + lv g := by rw [lv_eq, lv_eq, lv_eq]; simp only [addF]; simp; omega
theorem Lim.lt52 {f : Nat → Nat} (h : Lim 2 f) (j : Nat) (hj : j < 5) : f j < 2251799813685267 := by
  rcases Nat.eq_zero_or_pos j with h0 | h0
  · subst h0; exact (h.m2 rfl).1
  · have := (h.m2 rfl).2 j h0 hj; omega
theorem addF_lim {f g : Nat → Nat} (hf : Lim 2 f) (hg : Lim 2 g) : Lim 0 (addF f g 5) :=
  ⟨fun _ j hj => by unfold addF; rw [if_pos hj]; have := hf.lt52 j hj; have := hg.lt52 j hj; omega, fun h => by omega, fun h => by omega, fun h => by omega⟩
def mr (j : Nat) : Nat := if j = 0 then 9007199254740916 else 9007199254740988
def subF (f g : Nat → Nat) (i : Nat) : Nat → Nat := fun j => if j < i then f j + (mr j - g j) else f j
theorem subF_step (f g : Nat → Nat) (i : Nat) : upd (subF f g i) i (f i + (mr i - g i)) = subF f g (i + 1) := by
  funext j; unfold upd subF
  by_cases h : j = i
  · subst h; simp
  · rw [if_neg h]
    by_cases h2 : j < i
    · rw [if_pos h2, if_pos (by omega)]
    · rw [if_neg h2, if_neg (by omega)]
theorem subF_at (f g : Nat → Nat) (i : Nat) : subF f g i i = f i := by simp [subF]
theorem subF_lv {f g : Nat → Nat} (hg : Lim 2 g) : lv (subF f g 5) + lv g = lv f + 4 * fp := by
  have h0 := hg.lt52 0 (by omega); have h1 := hg.lt52 1 (by omega); have h2 := hg.lt52 2 (by omega); have h3 := hg.lt52 3 (by omega); have h4 := hg.lt52 4 (by omega)
  rw [lv_eq, lv_eq, lv_eq, fp_eq]; simp only [subF, mr]; simp; omega
theorem subF_lim {f g : Nat → Nat} (hf : Lim 2 f) : Lim 0 (subF f g 5) :=
  ⟨fun _ j hj => by unfold subF mr; rw [if_pos hj]; have := hf.lt52 j hj; split <;> omega, fun h => by omega, fun h => by omega, fun h => by omega⟩

set_option maxRecDepth 100000 in
set_option maxHeartbeats 2000000 in
theorem add_any (f g : Nat → Nat) (hf : Lim 2 f) (hg : Lim 2 g) (w : World) :
    Calls Try.prog 54 #[.agg (ecell f), .agg (ecell g)] w fun e w' => ∃ h, e = .returned (.agg (ecell h)) ∧ Lim 2 h ∧ lv h % fp = lv (addF f g 5) % fp ∧ Below w.heap.size w w' := by
  have hz := zeroE
  obtain ⟨W0, hW0⟩ : ∃ W, W = ((w.alloc (.cells (ecell f) 41)).alloc (.cells (ecell g) 41)).alloc (.cells z5 41) := ⟨_, rfl⟩
  have g0 : W0.heap[w.heap.size]? = some (.cells (ecell (addF f g 0)) 41 (0, 0)) := by rw [hW0, heap_alloc_old _ _ (by simp; omega), heap_alloc_old _ _ (by simp)]; exact heap_alloc_new _ _
  have g1 : W0.heap[w.heap.size + 1]? = some (.cells (ecell g) 41 (0, 0)) := by
    have := heap_alloc_new (w.alloc (.cells (ecell f) 41)) (.cells (ecell g) 41)
    rw [World.size_alloc] at this
    rw [hW0, heap_alloc_old _ _ (by simp)]; exact this
  have g2 : W0.heap[w.heap.size + 2]? = some (.cells (ecell f0) 41 (0, 0)) := by
    have := heap_alloc_new ((w.alloc (.cells (ecell f) 41)).alloc (.cells (ecell g) 41)) (.cells z5 41)
    rw [World.size_alloc, World.size_alloc] at this
    rw [hW0]; exact this
  have b0 : Below w.heap.size w W0 := by rw [hW0]; go_grown
  have G0 := Box.mk g0; have G1 := Box.mk g1; have G2 := Box.mk g2; have B0 := Box.mk b0; have HF := Box.mk hf; have HG := Box.mk hg
  clear g0 g1 g2 b0 hf hg
  go_enter Try.func54, Try.ntmps54
  go_wp2_with fail
  rw [← hW0]
  clear hW0 hz
  go_loopw [5, 6] (fun _ i wr => ∃ j : Nat, j ≤ 5 ∧ i = .int .i64 j ∧ wr.heap[w.heap.size]? = some (.cells (ecell (addF f g j)) 41 (0, 0)) ∧ wr.heap[w.heap.size + 1]? = some (.cells (ecell g) 41 (0, 0)) ∧ wr.heap[w.heap.size + 2]? = some (.cells (ecell f0) 41 (0, 0)) ∧ Below w.heap.size w wr) (fun _ i _ => (5 - intOf i).toNat)
  case atStart => exact ⟨0, by omega, rfl, G0.out, G1.out, G2.out, B0.out⟩
  case round =>
    clear G0 G1 G2 B0
    obtain ⟨j, hj, rfl, ha, hb, hr, hbel⟩ := hrel
    by_cases hjl : j < 5
    · have hjI : (j : Int) < 5 := by omega
      have bf := HF.out.lt52 j hjl
      have bg := HG.out.lt52 j hjl
      have c0 : wr.cell? ⟨w.heap.size, j, none⟩ = some (.int .u64 (f j : Nat)) := by rw [cell_of_row _ _ _ _ _ _ ha, ecell_get _ _ hjl, addF_at]
      have c1 : wr.cell? ⟨w.heap.size + 1, j, none⟩ = some (.int .u64 (g j : Nat)) := by rw [cell_of_row _ _ _ _ _ _ hb]; exact ecell_get _ _ hjl
      have z0 : wr.frozen? ⟨w.heap.size, j, none⟩ = false := frozen_of_row _ _ _ _ _ ha
      have hst := addF_step f g j
      have HSET := Box.mk (ecell_set (addF f g j) j hjl)
      obtain ⟨x, hx⟩ : ∃ x, x = f j + g j := ⟨_, rfl⟩
      rw [← hx] at hst
      have hxI : IntKind.u64.wrap (((f j : Nat) : Int) + ((g j : Nat) : Int)) = (x : Int) := by rw [IntKind.wrap_u64]; omega
      have HST := Box.mk hst
      generalize f j = y0 at c0 hxI hx
      generalize g j = y1 at c1 hxI hx 
      have HA := Box.mk ha; have HB := Box.mk hb; have HR := Box.mk hr; have HBEL := Box.mk hbel
      clear ha hb hr hbel hst hx bf bg
      go_wp2_with fail
      go_region
      go_wp2
      refine ⟨⟨j + 1, by omega, by go_num, ?_, ?_, ?_, (HBEL.out.setCell (Nat.le_refl _) _).drew⟩, by simp [intOf]; omega⟩
      · rw [heap_drew, heap_setCell_same _ _ _ _ _ _ HA.out, HSET.out x _ rfl, HST.out]
      · rw [heap_drew, heap_setCell_other _ _ _ _ (by simp)]; exact HB.out
      · rw [heap_drew, heap_setCell_other _ _ _ _ (by simp)]; exact HR.out
    · obtain rfl : j = 5 := by omega
      have HA := Box.mk ha; have HR := Box.mk hr; have HBEL := Box.mk hbel
      clear ha hb hr hbel
      go_wp2_with ((with_reducible refine wpList_loadE rfl (.tmp 2) rfl w.heap.size (addF f g 5) HA.out ?_ ?_); rfl)
      refine (carried_any 0 (addF f g 5) (addF_lim HF.out HG.out) _).mono ?_
      rintro e w2 ⟨h, rfl, hl, hv, hb2⟩
      have hr2 : w2.heap[w.heap.size + 2]? = some (.cells (ecell f0) 41 (0, 0)) := (hb2.block _ (Array.getElem?_eq_some_iff.1 HR.out).1).trans HR.out
      have HR2 := Box.mk hr2; have HL := Box.mk hl; have HV := Box.mk hv; have HB2 := Box.mk (HBEL.out.trans (hb2.mono HBEL.out.size))
      clear hr2 hl hv hb2
      go_wp2_with ((with_reducible refine wpList_storeE rfl (.tmp 4) (.tmp 19) rfl (w.heap.size + 2) h f0 HR2.out ?_ ?_ ?_); rfl; rfl)
      go_frame
      refine bodyPost_ret (results_cell_row (p := 4) (ty := 41) rfl _ _ (w.heap.size + 2) 41 (ecell h) (0, 0) _ rfl (setRow_heap _ _ _ _ _ _ HR2.out) Try.underlying41 rfl (by kernel_rfl)) rfl ⟨h, rfl, HL.out, HV.out, ?_⟩
      exact below_setRow HB2.out (by omega) _
end Go.Proofs.Ytpgichfagodkpaa.Fe
