/- The package limbs: Power, Small, Neg, Odd. -/
import Derived.Test.YtafhncpaoolljaaGreatM18
namespace Go.Proofs.YtafhncpaoolljaaGreat.Fe
set_option maxRecDepth 100000
set_option linter.unusedVariables false
open Go Go.RowKit
set_option maxRecDepth 100000 in
set_option maxHeartbeats 2000000 in
theorem power_any (a : Nat → Nat) (ha : Lim 2 a) (t : Nat) (ht : t ≤ 1000) (w : World) :
   Calls Tryz.prog 97 #[.agg (ecell a), .int .i64 t] w fun e w' => ∃ h, e = .returned (.agg (ecell h)) ∧ Lim 2 h ∧ lv h % fp = lv a ^ (2 ^ t) % fp ∧ Below w.heap.size w w' := by
 have hz := zeroE
 obtain ⟨W0, hW0⟩ : ∃ W, W = (w.alloc (.cells (ecell a) 56)).alloc (.cells z5 56) := ⟨_, rfl⟩
 have g0 : W0.heap[w.heap.size]? = some (.cells (ecell a) 56 (0, 0)) := by rw [hW0, heap_alloc_old _ _ (by simp)]; exact heap_alloc_new _ _
 have g1 : W0.heap[w.heap.size + 1]? = some (.cells (ecell f0) 56 (0, 0)) := by
   have := heap_alloc_new (w.alloc (.cells (ecell a) 56)) (.cells z5 56)
   rw [World.size_alloc] at this
   rw [hW0]; exact this
 have b0 : Below w.heap.size w W0 := by rw [hW0]; go_grown
 have G0 := Box.mk g0; have G1 := Box.mk g1; have B0 := Box.mk b0; have HA := Box.mk ha
 clear g0 g1 b0 ha
 go_enter Tryz.func97, Tryz.ntmps97
 go_wp2_with fail
 rw [← hW0]
 clear hW0 hz
 go_loopw [6] (fun i wr => ∃ (k : Nat) (g : Nat → Nat), k ≤ t ∧ i = .int .i64 k ∧ wr.heap[w.heap.size]? = some (.cells (ecell g) 56 (0, 0)) ∧ wr.heap[w.heap.size + 1]? = some (.cells (ecell f0) 56 (0, 0)) ∧ Lim 2 g ∧ lv g % fp = lv a ^ (2 ^ k) % fp ∧ Below w.heap.size w wr) (fun i _ => t - (intOf i).toNat)
 case atStart => exact ⟨0, a, by omega, rfl, G0.out, G1.out, HA.out, by simp, B0.out⟩
 case round =>
   clear G0 G1 HA B0
   obtain ⟨k, g, hk, rfl, hg, hr, hl, hv, hb⟩ := hrel
   have HG := Box.mk hg; have HR := Box.mk hr; have HL := Box.mk hl; have HV := Box.mk hv; have HB := Box.mk hb
   clear hg hr hl hv hb
   by_cases hkt : k < t
   · have hkI : (k : Int) < (t : Int) := by omega
     go_wp2_with (first
       | ((with_reducible refine wpList_loadE rfl (.tmp 2) rfl w.heap.size g HG.out ?_ ?_); rfl))
     refine (mul_any g g HL.out HL.out _).mono ?_
     rintro e w2 ⟨h, rfl, hl2, hv2, hb2⟩
     have q1 : w2.heap[w.heap.size]? = some (.cells (ecell g) 56 (0, 0)) := (hb2.block _ (Array.getElem?_eq_some_iff.1 HG.out).1).trans HG.out
     have q2 : w2.heap[w.heap.size + 1]? = some (.cells (ecell f0) 56 (0, 0)) := (hb2.block _ (Array.getElem?_eq_some_iff.1 HR.out).1).trans HR.out
     have Q1 := Box.mk q1; have Q2 := Box.mk q2; have HB2 := Box.mk (HB.out.trans (hb2.mono HB.out.size)); have HL2 := Box.mk hl2; have HV2 := Box.mk hv2
     clear q1 q2 hb2 hl2 hv2
     go_wp2_with ((with_reducible refine wpList_storeE rfl (.tmp 2) (.tmp 10) rfl w.heap.size h g Q1.out ?_ ?_ ?_); rfl; rfl)
     refine ⟨⟨k + 1, h, by omega, by go_num, setRow_heap _ _ _ _ _ _ Q1.out, ?_, HL2.out, ?_, below_setRow HB2.out (Nat.le_refl _) _⟩, by simp [intOf]; omega⟩
     · rw [setRow_other _ _ _ _ (by omega)]; exact Q2.out
     · rw [HV2.out, Nat.mul_mod, HV.out, ← Nat.mul_mod, Nat.pow_succ, Nat.pow_mul, Nat.pow_two]
   · obtain rfl : k = t := by omega
     go_wp2_with (first
       | ((with_reducible refine wpList_loadE rfl (.tmp 2) rfl w.heap.size g HG.out ?_ ?_); rfl)
       | ((with_reducible refine wpList_storeE rfl (.tmp 4) (.tmp 12) rfl (w.heap.size + 1) g f0 HR.out ?_ ?_ ?_); rfl; rfl))
     go_frame
     refine bodyPost_ret (results_cell_row (p := 4) (ty := 56) rfl _ _ (w.heap.size + 1) 56 (ecell g) (0, 0) _ rfl (setRow_heap _ _ _ _ _ _ HR.out) Tryz.underlying56 rfl (by kernel_rfl)) rfl ⟨g, rfl, HL.out, HV.out, ?_⟩
     exact below_setRow HB.out (by omega) _
def smF (n : Nat) : Nat → Nat := fun j => if j = 0 then n else 0
theorem smF_lv (n : Nat) : lv (smF n) = n := by rw [lv_eq]; simp [smF]
theorem smF_lim (n : Nat) (h : n < 2251799813685248) : Lim 3 (smF n) := ⟨fun h => by omega, fun h => by omega, fun h => by omega, fun _ j _ => by unfold smF; split <;> omega⟩
theorem f0_lim : Lim 3 f0 := ⟨fun h => by omega, fun h => by omega, fun h => by omega, fun _ j _ => by unfold f0; omega⟩
theorem f0_lv : lv f0 = 0 := by rw [lv_eq]; simp [f0]
set_option maxHeartbeats 1000000 in
theorem small_any (n : Nat) (hn : n < 2251799813685248) (w : World) :
   Calls Tryz.prog 57 #[.int .u64 n] w fun e w' => e = .returned (.agg (ecell (smF n))) ∧ Below w.heap.size w w' := by
 have hz := zeroE
 have hst : (w.alloc (.cells z5 56)).heap[w.heap.size]? = some (.cells (ecell f0) 56 (0, 0)) := heap_alloc_new _ _
 have HST := Box.mk hst
 clear hst
 go_enter Tryz.func57, Tryz.ntmps57
 go_wp2_with ((with_reducible refine wpList_storeE rfl (.tmp 2) (.tmp 4) rfl w.heap.size (smF n) f0 HST.out ?_ ?_ ?_); rfl; rfl)
 rw [World.setRow_alloc_new]
 go_frame
 exact bodyPost_ret (results_cell_row (p := 2) (ty := 56) rfl _ _ w.heap.size 56 (ecell (smF n)) (0, 0) _ rfl (heap_alloc_new _ _) Tryz.underlying56 rfl (by kernel_rfl)) rfl ⟨rfl, (Below.refl _ _).alloc (Nat.le_refl _) _⟩
end Go.Proofs.YtafhncpaoolljaaGreat.Fe
