/- The package limbs: Neg, Odd; sums and differences modulo the prime. -/
import Derived.Test.YtpgichfagodkpaaFieldG
import Derived.Deep.Cut
namespace Go.Proofs.Ytpgichfagodkpaa.Fe
set_option linter.unusedVariables false
open Go Go.RowKit

theorem addm_any (f g : Nat → Nat) (hf : Lim 2 f) (hg : Lim 2 g) (w : World) :
    Calls Try.prog 54 #[.agg (ecell f), .agg (ecell g)] w fun e w' => ∃ h, e = .returned (.agg (ecell h)) ∧ Lim 2 h ∧ lv h % fp = (lv f + lv g) % fp ∧ Below w.heap.size w w' :=
  (add_any f g hf hg w).mono fun _ _ ⟨h, he, hl, hv, hb⟩ => ⟨h, he, hl, by rw [hv, addF_lv], hb⟩
theorem subm_any (f g : Nat → Nat) (hf : Lim 2 f) (hg : Lim 2 g) (w : World) :
    Calls Try.prog 52 #[.agg (ecell f), .agg (ecell g)] w fun e w' => ∃ h, e = .returned (.agg (ecell h)) ∧ Lim 2 h ∧ (lv h + lv g) % fp = lv f % fp ∧ Below w.heap.size w w' :=
  (sub_any f g hf hg w).mono fun _ _ ⟨h, he, hl, hv, hb⟩ => ⟨h, he, hl, by
    rw [Nat.add_mod, hv, ← Nat.add_mod, subF_lv hg, Nat.add_mul_mod_self_right], hb⟩
set_option maxHeartbeats 1000000 in
theorem neg_any (f : Nat → Nat) (hf : Lim 2 f) (w : World) :
    Calls Try.prog 36 #[.agg (ecell f)] w fun e w' => ∃ h, e = .returned (.agg (ecell h)) ∧ Lim 2 h ∧ (lv h + lv f) % fp = 0 ∧ Below w.heap.size w w' := by
  have hz := zeroE
  obtain ⟨W0, hW0⟩ : ∃ W, W = (w.alloc (.cells (ecell f) 41)).alloc (.cells z5 41) := ⟨_, rfl⟩
  have g0 : W0.heap[w.heap.size]? = some (.cells (ecell f) 41 (0, 0)) := by rw [hW0, heap_alloc_old _ _ (by simp)]; exact heap_alloc_new _ _
  have g1 : W0.heap[w.heap.size + 1]? = some (.cells (ecell f0) 41 (0, 0)) := by
    have := heap_alloc_new (w.alloc (.cells (ecell f) 41)) (.cells z5 41)
    rw [World.size_alloc] at this
    rw [hW0]; exact this
  have b0 : Below w.heap.size w W0 := by rw [hW0]; go_grown
  have G0 := Box.mk g0; have G1 := Box.mk g1; have B0 := Box.mk b0; have HF := Box.mk hf
  clear g0 g1 b0 hf
  go_enter Try.func36, Try.ntmps36
  go_upto_region 1 with (fail)
  rw [← hW0]
  clear hW0 hz
  go_wp2_with ((with_reducible refine wpList_loadE rfl (.tmp 1) rfl w.heap.size f G0.out ?_ ?_); rfl)
  refine (subm_any f0 f f0_lim.two HF.out _).mono ?_
  rintro e w2 ⟨h, rfl, hl, hv, hb⟩
  have g2 : w2.heap[w.heap.size + 1]? = some (.cells (ecell f0) 41 (0, 0)) := (hb.block _ (Array.getElem?_eq_some_iff.1 G1.out).1).trans G1.out
  have b2 := B0.out.trans (hb.mono B0.out.size)
  rw [f0_lv, Nat.zero_mod] at hv
  have G2 := Box.mk g2; have B2 := Box.mk b2; have HL := Box.mk hl; have HV := Box.mk hv
  clear g2 b2 hl hv hb
  go_wp2_with ((with_reducible refine wpList_storeE rfl (.tmp 2) (.tmp 5) rfl (w.heap.size + 1) h f0 G2.out ?_ ?_ ?_); rfl; rfl)
  go_frame
  refine bodyPost_ret (results_cell_row (p := 2) (ty := 41) rfl _ _ (w.heap.size + 1) 41 (ecell h) (0, 0) _ rfl (setRow_heap _ _ _ _ _ _ G2.out) Try.underlying41 rfl (by kernel_rfl)) rfl ⟨h, rfl, HL.out, HV.out, ?_⟩
  exact below_setRow B2.out (by omega) _
def oddB (n : Nat) : Bool := n % 2 == 1
set_option maxHeartbeats 1000000 in
theorem odd_any (f : Nat → Nat) (hf : Lim 0 f) (w : World) :
    Calls Try.prog 57 #[.agg (ecell f)] w fun e w' => e = .returned (.bool (oddB (lv f % fp))) ∧ Below w.heap.size w w' := by
  have g0 : (w.alloc (.cells (ecell f) 41)).heap[w.heap.size]? = some (.cells (ecell f) 41 (0, 0)) := heap_alloc_new _ _
  have G0 := Box.mk g0; have HF := Box.mk hf
  clear g0 hf
  go_enter Try.func57, Try.ntmps57
  go_wp2_with ((with_reducible refine wpList_loadE rfl (.tmp 1) rfl w.heap.size f G0.out ?_ ?_); rfl)
  refine (least_any f HF.out _).mono ?_
  rintro e w2 ⟨g, rfl, hl, hv, hb⟩
  have hb2 : Below w.heap.size w w2 := ((Below.refl _ _).alloc (Nat.le_refl _) _).trans (hb.mono (by simp))
  have hx : (lv f % fp) % 2 = g 0 % 2 := by rw [← hv, lv_eq]; omega
  have hodd : oddB (lv f % fp) = ((g 0 % 2 : Nat) == 1) := by unfold oddB; rw [hx]
  have hand : bits .and .u64 ((g 0 : Nat) : Int) 1 = ((g 0 % 2 : Nat) : Int) := by
    rw [show (1 : Int) = ((1 : Nat) : Int) from rfl, u64_and_nat _ _ (by have := hl.m3 (by omega) 0 (by omega); omega) (by decide), Nat.and_one_is_mod]
  obtain ⟨q, hq⟩ : ∃ q, q = g 0 % 2 := ⟨_, rfl⟩
  rw [← hq] at hodd hand
  have HB := Box.mk hb2; have HO := Box.mk hodd
  have hix : ∀ w, (Instr.index 41 (.agg (ecell g)) (.int .i64 0)).run Try.prog w = .ok (.int .u64 (g 0 : Nat)) w := fun _ => by kernel_rfl
  clear hb hb2 hx hodd hq hl hv
  go_wp2
  go_ret
  refine ⟨?_, HB.out⟩
  rw [HO.out]
  have e : ((q : Int) == 1) = (q == 1) := by rw [Bool.eq_iff_iff]; simp; omega
  show Ending.returned (Value.bool ((q : Int) == 1)) = _
  rw [e]
end Go.Proofs.Ytpgichfagodkpaa.Fe
