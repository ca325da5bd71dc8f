/- The package limbs: least. -/
import Derived.Test.YtpgichfagodkpaaFieldA
import Derived.Deep.Cut
namespace Go.Proofs.Ytpgichfagodkpaa.Fe
set_option linter.unusedVariables false
open Go Go.RowKit

/-- A whole element read from its block; laid into one. -/
theorem wpList_loadE {ops : Array Oper} {rest : List Oper} {o : Oper} {a : Act} {w : World} {Q : Exit → Act → World → Prop} (hgd : o.guard = none) (x : Operand) (ho : o.op = .load 41 x)
    (g : Nat) (f : Nat → Nat) (hg : w.heap[g]? = some (.cells (ecell f) 41 (0, 0))) (hx : a.eval x = .pointer (some ⟨g, 0, none⟩))
    (h : wpList Try.prog ops Q rest (a.put o.dst (.agg (ecell f))) w) : wpList Try.prog ops Q (o :: rest) a w :=
  wpList_load_row hgd 41 x ho g hx 41 (ecell f) (0, 0) _ hg Try.underlying41 rfl (by kernel_rfl) h
theorem ecell_one (f : Nat → Nat) : (ecell f).all (·.oneCell') = true := by simp [ecell, Value.oneCell']
theorem wpList_storeE {ops : Array Oper} {rest : List Oper} {o : Oper} {a : Act} {w : World} {Q : Exit → Act → World → Prop} (hgd : o.guard = none) (x y : Operand) (ho : o.op = .store 41 x y)
    (g : Nat) (f f0 : Nat → Nat) (hg : w.heap[g]? = some (.cells (ecell f0) 41 (0, 0))) (hx : a.eval x = .pointer (some ⟨g, 0, none⟩)) (hy : a.eval y = .agg (ecell f))
    (h : wpList Try.prog ops Q rest (a.put o.dst undef) (w.setRow g (ecell f))) : wpList Try.prog ops Q (o :: rest) a w :=
  wpList_store_row hgd 41 x y ho g (ecell f) hx hy 41 (ecell f0) hg (by kernel_rfl) rfl (ecell_one f) h
theorem zeroE (w : World) : (zeroValue 41).run Try.prog w = .ok (.agg z5) w := by kernel_rfl
def f0 : Nat → Nat := fun _ => 0
theorem upd_setRow (w : World) (b : Nat) (cs : Array Value) : Upd [b] w (w.setRow b cs) :=
  ⟨setRow_os _ _ _, setRow_tape _ _ _, setRow_output _ _ _, by rw [setRow_size]; exact Nat.le_refl _, fun i _ hn => setRow_other _ _ _ _ (by simpa using hn)⟩
set_option maxRecDepth 100000 in
set_option maxHeartbeats 2000000 in
theorem least_any (f : Nat → Nat) (hf : Lim 0 f) (w : World) :
    Calls Try.prog 73 #[.agg (ecell f)] w fun e w' => ∃ g, e = .returned (.agg (ecell g)) ∧ Lim 3 g ∧ lv g = lv f % fp ∧ Below w.heap.size w w' := by
  have hz := zeroE
  obtain ⟨W0, hW0⟩ : ∃ W, W = (w.alloc (.cells (ecell f) 41)).alloc (.cells z5 41) := ⟨_, rfl⟩
  have g0 : W0.heap[w.heap.size]? = some (.cells (ecell f) 41 (0, 0)) := by rw [hW0, heap_alloc_old _ _ (by simp)]; exact heap_alloc_new _ _
  have g1 : W0.heap[w.heap.size + 1]? = some (.cells (ecell f0) 41 (0, 0)) := by
    have := heap_alloc_new (w.alloc (.cells (ecell f) 41)) (.cells z5 41)
    rw [World.size_alloc] at this
    rw [hW0]; exact this
  have b0 : Below w.heap.size w W0 := by rw [hW0]; go_grown
  have z0 : W0.heap.size = w.heap.size + 2 := by rw [hW0]; simp
  have G0 := Box.mk g0; have G1 := Box.mk g1; have B0 := Box.mk b0; have HF := Box.mk hf; have Z0 := Box.mk z0
  clear g0 g1 b0 hf z0
  go_enter Try.func73, Try.ntmps73
  go_upto_region 1 with (fail)
  rw [← hW0]
  clear hW0
  go_wp2_with ((with_reducible refine wpList_loadE rfl (.tmp 1) rfl w.heap.size f G0.out ?_ ?_); rfl)
  refine (carried_any 0 f HF.out _).mono ?_
  rintro e w1 ⟨f1, rfl, hl1, hv1, hb1⟩
  have HL1 := Box.mk hl1; have HV1 := Box.mk hv1; have HB1 := Box.mk hb1
  clear hl1 hv1 hb1
  go_wp2_with fail
  refine (carried_any 2 f1 HL1.out _).mono ?_
  rintro e w2 ⟨f2, rfl, hl2, hv2, hb2⟩
  have hb02 : Below W0.heap.size W0 w2 := HB1.out.trans (hb2.mono HB1.out.size)
  have g2 : w2.heap[w.heap.size]? = some (.cells (ecell f) 41 (0, 0)) := (hb02.block _ (by have := Z0.out; omega)).trans G0.out
  have g3 : w2.heap[w.heap.size + 1]? = some (.cells (ecell f0) 41 (0, 0)) := (hb02.block _ (by have := Z0.out; omega)).trans G1.out
  have b2 : Below w.heap.size w w2 := B0.out.trans (hb02.mono B0.out.size)
  have z2 : w.heap.size + 2 ≤ w2.heap.size := by have := hb02.size; have := Z0.out; omega
  have hl2 := hl2.full (by omega)
  have HL2 := Box.mk hl2; have HV2 := Box.mk (hv2.trans HV1.out); have G2 := Box.mk g2
  obtain ⟨W3, hW3⟩ : ∃ W, W = w2.setRow w.heap.size (ecell f2) := ⟨_, rfl⟩
  have g4 : W3.heap[w.heap.size]? = some (.cells (ecell f2) 41 (0, 0)) := by rw [hW3]; exact setRow_heap _ _ _ _ _ _ g2
  have g5 : W3.heap[w.heap.size + 1]? = some (.cells (ecell f0) 41 (0, 0)) := by rw [hW3, setRow_other _ _ _ _ (by omega)]; exact g3
  have b3 : Below w.heap.size w W3 := by rw [hW3]; exact below_setRow b2 (Nat.le_refl _) _
  have z3 : W3.heap.size = w2.heap.size := by rw [hW3, setRow_size]
  have G4 := Box.mk g4; have G5 := Box.mk g5; have B3 := Box.mk b3; have Z3 := Box.mk z3
  clear hb02 g2 g3 b2 hl2 hv2 g4 g5 b3 z3 hb2
  go_upto_region 2 with ((with_reducible refine wpList_storeE rfl (.tmp 1) (.tmp 7) rfl w.heap.size f2 f G2.out ?_ ?_ ?_); rfl; rfl)
  go_frame
  rw [← hW3]
  clear hW3
  obtain ⟨bb, hbb⟩ : ∃ bb, bb = W3.heap.size := ⟨_, rfl⟩
  obtain ⟨W4, hW4⟩ : ∃ W, W = W3.alloc (.cells (ecell f2) 41) := ⟨_, rfl⟩
  have hbl : w.heap.size + 2 ≤ bb := by have := Z3.out; omega
  have g6 : W4.heap[w.heap.size]? = some (.cells (ecell f2) 41 (0, 0)) := by rw [hW4, heap_alloc_old _ _ (by omega)]; exact G4.out
  have g7 : W4.heap[w.heap.size + 1]? = some (.cells (ecell f0) 41 (0, 0)) := by rw [hW4, heap_alloc_old _ _ (by omega)]; exact G5.out
  have g8 : W4.heap[bb]? = some (.cells (ecell f2) 41 (0, 0)) := by rw [hW4, hbb]; exact heap_alloc_new _ _
  have b4 : Below w.heap.size w W4 := by rw [hW4]; exact B3.out.alloc (by omega) _
  have hst : ∀ W : World, (W.alloc (.cells z5 41)).heap[W.heap.size]? = some (.cells (ecell f0) 41 (0, 0)) := fun W => heap_alloc_new _ _
  have HST := Box.mk hst
  have G6 := Box.mk g6; have G7 := Box.mk g7; have G8 := Box.mk g8; have B4 := Box.mk b4
  clear g6 g7 g8 b4 hst
  go_upto_region 3 with (first
    | ((with_reducible refine wpList_loadE rfl (.tmp 1) rfl w.heap.size f2 G4.out ?_ ?_); rfl)
    | ((with_reducible refine wpList_storeE rfl (.tmp 3) (.tmp 8) rfl W3.heap.size f2 f0 (HST.out _) ?_ ?_ ?_); rfl; rfl))
  rw [World.setRow_alloc_new, ← hW4]
  go_frame
  rw [← hbb]
  clear hW4 hbb HST hz z2
  have hup := Up.start HL2.out
  have hbd0 := hup.bound (by omega)
  rw [upd_same] at hbd0
  obtain ⟨x0, hx0⟩ : ∃ x, x = f2 0 + 19 := ⟨_, rfl⟩
  rw [← hx0] at hup hbd0
  have c0 : W4.cell? ⟨bb, 0, none⟩ = some (.int .u64 (f2 0 : Nat)) := by rw [cell_of_row _ _ _ _ _ _ G8.out]; exact ecell_get _ _ (by omega)
  have fz : W4.frozen? ⟨bb, 0, none⟩ = false := frozen_of_row _ _ _ _ _ G8.out
  have hxI : IntKind.u64.wrap (((f2 0 : Nat) : Int) + 19) = (x0 : Int) := by rw [IntKind.wrap_u64]; omega
  have HSET := Box.mk (ecell_set f2 0 (by omega) x0 _ rfl)
  generalize f2 0 = y0 at c0 hxI
  have HUP := Box.mk hup
  clear hup hx0 hbd0
  go_wp2_with fail
  go_loopw [4, 13] (fun _ i wr => ∃ (j : Nat) (h : Nat → Nat), j ≤ 4 ∧ i = .int .i64 j ∧ wr.heap[bb]? = some (.cells (ecell h) 41 (0, 0)) ∧ wr.heap[w.heap.size]? = some (.cells (ecell f2) 41 (0, 0)) ∧ wr.heap[w.heap.size + 1]? = some (.cells (ecell f0) 41 (0, 0)) ∧ Up f2 j h ∧ Below w.heap.size w wr) (fun _ i _ => (4 - intOf i).toNat)
  case atStart => exact ⟨0, _, by omega, rfl, by rw [heap_setCell_same _ _ _ _ _ _ G8.out, HSET.out], by rw [heap_setCell_other _ _ _ _ (by simp; omega)]; exact G6.out, by rw [heap_setCell_other _ _ _ _ (by simp; omega)]; exact G7.out, HUP.out, B4.out.setCell (by simp; omega) _⟩
  case round =>
    clear c0 fz hxI HSET HUP G6 G7 G8 B4
    obtain ⟨j, h, hj, rfl, hg, ha, hrr, hup, hb⟩ := hrel
    by_cases hjl : j < 4
    · have hjI : (j : Int) < 4 := by omega
      have hbd := hup.bound (by omega : j < 5)
      have hbd2 := hup.up (j + 1) (by omega)
      have hb3 := hup.lim.m3 (by omega) (j + 1) (by omega)
      have hstep := hup.step hjl
      have hne : j + 1 ≠ j := by omega
      have hne2 : ¬ (j + 1 = j) := by omega
      have hne3 : ¬ (j = j + 1) := by omega
      have c0 : wr.cell? ⟨bb, j, none⟩ = some (.int .u64 (h j : Nat)) := by rw [cell_of_row _ _ _ _ _ _ hg]; exact ecell_get _ _ (by omega)
      have c1 : wr.cell? ⟨bb, j + 1, none⟩ = some (.int .u64 (h (j + 1) : Nat)) := by rw [cell_of_row _ _ _ _ _ _ hg]; exact ecell_get _ _ (by omega)
      have z0 : wr.frozen? ⟨bb, j, none⟩ = false := frozen_of_row _ _ _ _ _ hg
      have z1 : wr.frozen? ⟨bb, j + 1, none⟩ = false := frozen_of_row _ _ _ _ _ hg
      have HSET := Box.mk (ecell_set h (j + 1) (by omega))
      obtain ⟨d, hd⟩ : ∃ d, d = h j / 2251799813685248 := ⟨_, rfl⟩
      obtain ⟨r, hr⟩ : ∃ r, r = h j % 2251799813685248 := ⟨_, rfl⟩
      obtain ⟨x, hx⟩ : ∃ x, x = h (j + 1) + d := ⟨_, rfl⟩
      rw [← hd, ← hr, ← hx] at hstep
      have hand := and51 (h j) (by omega)
      rw [← hr] at hand
      have hdiv : ((h j : Nat) : Int) / 2251799813685248 = (d : Int) := by omega
      have hxI : IntKind.u64.wrap (((h (j + 1) : Nat) : Int) + (d : Int)) = (x : Int) := by rw [IntKind.wrap_u64]; omega
      have HSTEP := Box.mk hstep
      clear hbd hbd2 hb3 hstep hup
      generalize h j = y0 at c0 hand hdiv hd hr
      generalize h (j + 1) = y1 at c1 hxI hx
      have HG := Box.mk hg; have HA := Box.mk ha; have HRR := Box.mk hrr; have HB := Box.mk hb
      clear hg ha hrr hb hd hr hx
      go_wp2_with fail
      go_region
      go_wp2
      refine ⟨⟨j + 1, upd (upd h (j + 1) x) j r, by omega, by go_num, ?_, ?_, ?_, HSTEP.out, ((HB.out.setCell (by simp; omega) _).setCell (by simp; omega) _).drew⟩, by simp [intOf]; omega⟩
      · rw [heap_drew, heap_setCell_same _ _ _ _ _ _ (heap_setCell_same _ _ _ _ _ _ HG.out), HSET.out x _ rfl, ecell_set _ j (by omega) r _ rfl]
      · rw [heap_drew, heap_setCell_other _ _ _ _ (by simp; omega), heap_setCell_other _ _ _ _ (by simp; omega)]; exact HA.out
      · rw [heap_drew, heap_setCell_other _ _ _ _ (by simp; omega), heap_setCell_other _ _ _ _ (by simp; omega)]; exact HRR.out
    · obtain rfl : j = 4 := by omega
      obtain ⟨hlo, hhi⟩ := hup.least
      have hbd := hup.bound (by omega : 4 < 5)
      have c0 : wr.cell? ⟨bb, 4, none⟩ = some (.int .u64 (h 4 : Nat)) := by rw [cell_of_row _ _ _ _ _ _ hg]; exact ecell_get _ _ (by omega)
      have z0 : wr.frozen? ⟨bb, 4, none⟩ = false := frozen_of_row _ _ _ _ _ hg
      have HSET := Box.mk (ecell_set h 4 (by omega))
      obtain ⟨d, hd⟩ : ∃ d, d = h 4 / 2251799813685248 := ⟨_, rfl⟩
      obtain ⟨r, hr⟩ : ∃ r, r = h 4 % 2251799813685248 := ⟨_, rfl⟩
      rw [← hd] at hlo hhi
      rw [← hr] at hhi
      have hand := and51 (h 4) (by omega)
      rw [← hr] at hand
      have hdiv : ((h 4 : Nat) : Int) / 2251799813685248 = (d : Int) := by omega
      have HLO := Box.mk hlo; have HHI := Box.mk hhi
      clear hbd hup hlo hhi
      generalize h 4 = y0 at c0 hand hdiv hd hr
      have HG := Box.mk hg; have HA := Box.mk ha; have HRR := Box.mk hrr; have HB := Box.mk hb
      clear hg ha hrr hb hd hr
      by_cases hd0 : d = 0
      · have hdI : ((d : Int) == 0) = true := by simp; omega
        have HLV := Box.mk (HLO.out hd0)
        clear hand hd0
        go_wp2_with (first
          | ((with_reducible refine wpList_loadE rfl (.tmp 1) rfl w.heap.size f2 HA.out ?_ ?_); rfl)
          | ((with_reducible refine wpList_storeE rfl (.tmp 2) (.tmp 36) rfl (w.heap.size + 1) f2 f0 HRR.out ?_ ?_ ?_); rfl; rfl))
        go_frame
        refine bodyPost_ret (results_cell_row (p := 2) (ty := 41) rfl _ _ (w.heap.size + 1) 41 (ecell f2) (0, 0) _ rfl (setRow_heap _ _ _ _ _ _ HRR.out) Try.underlying41 rfl (by kernel_rfl)) rfl ⟨f2, rfl, HL2.out, by rw [← HV2.out, HLV.out], ?_⟩
        exact below_setRow HB.out (by omega) _
      · have hdI : ((d : Int) == 0) = false := by rw [beq_eq_false_iff_ne]; omega
        have HLV := Box.mk (HHI.out hd0)
        clear hd0
        obtain ⟨W6, hW6⟩ : ∃ W, W = wr.setCell ⟨bb, 4, none⟩ (.int .u64 (r : Int)) := ⟨_, rfl⟩
        have q1 : W6.heap[bb]? = some (.cells (ecell (upd h 4 r)) 41 (0, 0)) := by rw [hW6, heap_setCell_same _ _ _ _ _ _ HG.out, HSET.out r _ rfl]
        have q2 : W6.heap[w.heap.size + 1]? = some (.cells (ecell f0) 41 (0, 0)) := by rw [hW6, heap_setCell_other _ _ _ _ (by simp; omega)]; exact HRR.out
        have q3 : Below w.heap.size w W6 := by rw [hW6]; exact HB.out.setCell (by simp; omega) _
        have Q1 := Box.mk q1; have Q2 := Box.mk q2; have Q3 := Box.mk q3
        clear q1 q2 q3
        go_upto_region 13 with (fail)
        rw [← hW6]
        clear hW6 c0 z0
        go_wp2_with (first
          | ((with_reducible refine wpList_loadE rfl (.tmp 3) rfl bb (upd h 4 r) Q1.out ?_ ?_); rfl)
          | ((with_reducible refine wpList_storeE rfl (.tmp 2) (.tmp 41) rfl (w.heap.size + 1) (upd h 4 r) f0 Q2.out ?_ ?_ ?_); rfl; rfl))
        go_frame
        refine bodyPost_ret (results_cell_row (p := 2) (ty := 41) rfl _ _ (w.heap.size + 1) 41 (ecell (upd h 4 r)) (0, 0) _ rfl (setRow_heap _ _ _ _ _ _ Q2.out) Try.underlying41 rfl (by kernel_rfl)) rfl ⟨upd h 4 r, rfl, HLV.out.1, by rw [← HV2.out, HLV.out.2], ?_⟩
        exact below_setRow Q3.out (by omega) _
end Go.Proofs.Ytpgichfagodkpaa.Fe
