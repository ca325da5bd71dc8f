/- The package limbs: carried. -/
import Derived.Test.YtpgichfagodkpaaRows
import Derived.Test.YtpgichfagodkpaaFieldM
import Derived.Test.YtpgichfagodkpaaRow
import Derived.Laws.CopyOwn
import Derived.Deep.WholeRow
import Derived.Maps.RangeWalk
namespace Go.Proofs.Ytpgichfagodkpaa.Fe
set_option linter.unusedVariables false
open Go Go.RowKit

theorem and51 (x : Nat) (hx : x < 18446744073709551616) : bits .and .u64 (x : Int) 2251799813685247 = ((x % 2251799813685248 : Nat) : Int) := by
  rw [show (2251799813685247 : Int) = ((2251799813685247 : Nat) : Int) from rfl, u64_and_nat _ _ hx (by decide), show (2251799813685247 : Nat) = 2 ^ 51 - 1 from rfl, Nat.and_two_pow_sub_one_eq_mod]
def z5 : Array Value := #[.int .u64 0, .int .u64 0, .int .u64 0, .int .u64 0, .int .u64 0]
theorem z5_ecell : z5 = ecell fun _ => 0 := rfl
set_option maxRecDepth 100000 in
set_option maxHeartbeats 2000000 in
theorem carried_any (m : Nat) (f : Nat → Nat) (hf : Lim m f) (w : World) :
    Calls Try.prog 76 #[.agg (ecell f)] w fun e w' => ∃ g, e = .returned (.agg (ecell g)) ∧ Lim (m + 2) g ∧ lv g % fp = lv f % fp ∧ Below w.heap.size w w' := by
  have hz : ∀ w, (zeroValue 41).run Try.prog w = .ok (.agg z5) w := fun _ => by kernel_rfl
  obtain ⟨W0, hW0⟩ : ∃ W, W = (w.alloc (.cells (ecell f) 41)).alloc (.cells z5 41) := ⟨_, rfl⟩
  have g0 : W0.heap[w.heap.size]? = some (.cells (ecell f) 41 (0, 0)) := by rw [hW0, heap_alloc_old _ _ (by simp)]; exact heap_alloc_new _ _
  have g1 : W0.heap[w.heap.size + 1]? = some (.cells z5 41 (0, 0)) := by
    have := heap_alloc_new (w.alloc (.cells (ecell f) 41)) (.cells z5 41)
    rw [World.size_alloc] at this
    rw [hW0]; exact this
  have b0 : Below w.heap.size w W0 := by rw [hW0]; go_grown
  have G0 := Box.mk g0; have G1 := Box.mk g1; have B0 := Box.mk b0; have HF := Box.mk hf
  clear g0 g1 b0 hf
  go_enter Try.func76, Try.ntmps76
  go_wp2_with fail
  rw [← hW0]
  clear hW0 hz
  go_loopw [3, 5] (fun o i wr => ∃ (k : Nat) (g : Nat → Nat), k ≤ 2 ∧ i = .int .i64 k ∧ wr.heap[w.heap.size]? = some (.cells (ecell g) 41 (0, 0)) ∧ wr.heap[w.heap.size + 1]? = some (.cells z5 41 (0, 0)) ∧ Lim (m + k) g ∧ lv g % fp = lv f % fp ∧ Below w.heap.size w wr) (fun _ i _ => (2 - intOf i).toNat)
  case atStart => exact ⟨0, f, by omega, rfl, G0.out, G1.out, HF.out, rfl, B0.out⟩
  case round =>
    clear G0 G1 HF B0
    obtain ⟨k, g, hk, rfl, hg, hz1, hlim, hval, hb⟩ := hrel
    have HZ1 := Box.mk hz1; have HVAL := Box.mk hval; have HB := Box.mk hb
    clear hz1 hval hb
    by_cases hkl : k < 2
    · have hkI : (k : Int) < 2 := by omega
      have HG := Box.mk hg; have HST := Box.mk (Car.start hlim)
      clear hg hlim
      go_wp2_with fail
      obtain ⟨wo, rfl⟩ : ∃ wo : World, wo = wr := ⟨_, rfl⟩
      go_loopw [3, 7] (fun ov i wr => ∃ (j o : Nat) (h : Nat → Nat), j ≤ 5 ∧ i = .int .i64 j ∧ ov = .int .u64 o ∧ wr.heap[w.heap.size]? = some (.cells (ecell h) 41 (0, 0)) ∧ wr.heap[w.heap.size + 1]? = some (.cells z5 41 (0, 0)) ∧ Car (m + k) g j h o ∧ Below w.heap.size w wr) (fun _ i _ => (5 - intOf i).toNat)
      case atStart => exact ⟨0, 0, g, by omega, rfl, rfl, HG.out, HZ1.out, HST.out, HB.out⟩
      case round =>
        clear HG HZ1 HST HB
        obtain ⟨j, o, h, hj, rfl, rfl, hg, hz1, hcar, hb⟩ := hrel
        by_cases hjl : j < 5
        · have hjI : (j : Int) < 5 := by omega
          have hbd := hcar.bound hjl
          have hstep := hcar.step hjl
          have c0 : wr.cell? ⟨w.heap.size, j, none⟩ = some (.int .u64 (h j : Nat)) := by rw [cell_of_row _ _ _ _ _ _ hg]; exact ecell_get _ _ hjl
          have f0 : wr.frozen? ⟨w.heap.size, j, none⟩ = false := frozen_of_row _ _ _ _ _ hg
          have HSET := Box.mk (ecell_set h j hjl)
          obtain ⟨x, hx⟩ : ∃ x, x = h j + o := ⟨_, rfl⟩
          rw [← hx] at hbd hstep
          have hxI : IntKind.u64.wrap (((h j : Nat) : Int) + (o : Int)) = (x : Int) := by rw [IntKind.wrap_u64]; omega
          generalize h j = y at c0 hxI
          have hand := and51 x hbd
          obtain ⟨d, hd⟩ : ∃ d, d = x / 2251799813685248 := ⟨_, rfl⟩
          obtain ⟨r, hr⟩ : ∃ r, r = x % 2251799813685248 := ⟨_, rfl⟩
          rw [← hr] at hand hstep
          rw [← hd] at hstep
          have hdiv : (x : Int) / 2251799813685248 = (d : Int) := by omega
          have HG := Box.mk hg; have HZ1 := Box.mk hz1; have HB := Box.mk hb; have HSTEP := Box.mk hstep
          clear hg hz1 hb hstep hcar hx hd hr
          go_wp2
          refine ⟨⟨j + 1, d, upd h j r, by omega, by go_num, rfl, ?_, ?_, HSTEP.out, (HB.out.setCell (Nat.le_refl _) _).setCell (Nat.le_refl _) _⟩, by simp [intOf]; omega⟩
          · rw [heap_setCell_same _ _ _ _ _ _ (heap_setCell_same _ _ _ _ _ _ HG.out), HSET.out x _ rfl, ecell_set _ j hjl r _ rfl, upd_upd]
          · rw [heap_setCell_other _ _ _ _ (by simp), heap_setCell_other _ _ _ _ (by simp)]; exact HZ1.out
        · obtain rfl : j = 5 := by omega
          obtain ⟨hl2, hv2, hx2⟩ := hcar.done
          have c0 : wr.cell? ⟨w.heap.size, 0, none⟩ = some (.int .u64 (h 0 : Nat)) := by rw [cell_of_row _ _ _ _ _ _ hg]; exact ecell_get _ _ (by omega)
          have f0 : wr.frozen? ⟨w.heap.size, 0, none⟩ = false := frozen_of_row _ _ _ _ _ hg
          have HSET := Box.mk (ecell_set h 0 (by omega))
          obtain ⟨q, hq⟩ : ∃ q, q = 19 * o := ⟨_, rfl⟩
          obtain ⟨x, hx⟩ : ∃ x, x = h 0 + q := ⟨_, rfl⟩
          rw [← hq, ← hx] at hl2 hv2 hx2
          have hqI : IntKind.u64.wrap (19 * (o : Int)) = (q : Int) := by rw [IntKind.wrap_u64]; omega
          have hxI : IntKind.u64.wrap (((h 0 : Nat) : Int) + (q : Int)) = (x : Int) := by rw [IntKind.wrap_u64]; omega
          generalize h 0 = y at c0 hxI
          have HG := Box.mk hg; have HZ1 := Box.mk hz1; have HB := Box.mk hb; have HL2 := Box.mk hl2; have HV2 := Box.mk hv2
          clear hg hz1 hb hcar hl2 hv2 hx hq
          go_wp2
          refine ⟨⟨k + 1, upd h 0 x, by omega, by go_num, ?_, ?_, HL2.out, HV2.out.trans HVAL.out, HB.out.setCell (Nat.le_refl _) _⟩, by simp [intOf]; omega⟩
          · rw [heap_setCell_same _ _ _ _ _ _ HG.out, HSET.out x _ rfl]
          · rw [heap_setCell_other _ _ _ _ (by simp)]; exact HZ1.out
    · obtain rfl : k = 2 := by omega
      have HG := Box.mk hg; have HLIM := Box.mk hlim
      have h1 : (ecell g).all (·.oneCell') = true := by simp [ecell, Value.oneCell']
      have H1 := Box.mk h1
      clear hg hlim h1
      go_wp2_with (first
        | ((with_reducible refine wpList_load_row rfl 41 (.tmp 1) rfl w.heap.size ?_ 41 (ecell g) (0, 0) _ HG.out Try.underlying41 ?_ ?_ ?_); rfl; rfl; kernel_rfl)
        | ((with_reducible refine wpList_store_row rfl 41 (.tmp 2) (.tmp 33) rfl (w.heap.size + 1) (ecell g) ?_ ?_ 41 z5 HZ1.out ?_ ?_ H1.out ?_); rfl; rfl; kernel_rfl; rfl))
      go_frame
      refine bodyPost_ret (results_cell_row (p := 2) (ty := 41) rfl _ _ (w.heap.size + 1) 41 (ecell g) (0, 0) _ rfl (setRow_heap _ _ _ _ _ _ HZ1.out) Try.underlying41 rfl (by kernel_rfl)) rfl ⟨g, rfl, HLIM.out, HVAL.out, ?_⟩
      exact below_setRow HB.out (by omega) _
end Go.Proofs.Ytpgichfagodkpaa.Fe
