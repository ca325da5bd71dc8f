/- The document's numbers: Below, less. -/
import Derived.Test.YtpgichfagodkpaaFieldN
import Derived.Test.YtpgichfagodkpaaFieldB
namespace Go.Proofs.Ytpgichfagodkpaa.Fe
set_option linter.unusedVariables false
open Go Go.RowKit

theorem wpList_loadN {ops : Array Oper} {rest : List Oper} {o : Oper} {a : Act} {w : World} {Q : Exit → Act → World → Prop} (hgd : o.guard = none) (x : Operand) (ho : o.op = .load 48 x)
    (g : Nat) (f : Nat → Nat) (hg : w.heap[g]? = some (.cells (ncell f) 48 (0, 0))) (hx : a.eval x = .pointer (some ⟨g, 0, none⟩))
    (h : wpList Try.prog ops Q rest (a.put o.dst (.agg (ncell f))) w) : wpList Try.prog ops Q (o :: rest) a w :=
  wpList_load_row hgd 48 x ho g hx 48 (ncell f) (0, 0) _ hg Try.underlying48 rfl (by kernel_rfl) h
theorem wpList_storeN {ops : Array Oper} {rest : List Oper} {o : Oper} {a : Act} {w : World} {Q : Exit → Act → World → Prop} (hgd : o.guard = none) (x y : Operand) (ho : o.op = .store 48 x y)
    (g : Nat) (f f0 : Nat → Nat) (hg : w.heap[g]? = some (.cells (ncell f0) 48 (0, 0))) (hx : a.eval x = .pointer (some ⟨g, 0, none⟩)) (hy : a.eval y = .agg (ncell f))
    (h : wpList Try.prog ops Q rest (a.put o.dst undef) (w.setRow g (ncell f))) : wpList Try.prog ops Q (o :: rest) a w :=
  wpList_store_row hgd 48 x y ho g (ncell f) hx hy 48 (ncell f0) hg (by kernel_rfl) rfl (ncell_one f) h
def z16 : Array Value := ncell f0
theorem zeroN (w : World) : (zeroValue 48).run Try.prog w = .ok (.agg (ncell f0)) w := by kernel_rfl
@[irreducible] def ltN (n m : Nat) : Bool := decide (n < m)
theorem ltN_eq (n m : Nat) : ltN n m = decide (n < m) := by unfold ltN; first | done | rfl
set_option maxRecDepth 100000 in
set_option maxHeartbeats 2000000 in
theorem below_any (f g : Nat → Nat) (hf : Dig f) (hg : Dig g) (w : World) :
    Calls Try.prog 79 #[.agg (ncell f), .agg (ncell g)] w fun e w' => e = .returned (.bool (ltN (nv f) (nv g))) ∧ Below w.heap.size w w' := by
  obtain ⟨W0, hW0⟩ : ∃ W, W = (w.alloc (.cells (ncell f) 48)).alloc (.cells (ncell g) 48) := ⟨_, rfl⟩
  have g0 : W0.heap[w.heap.size]? = some (.cells (ncell f) 48 (0, 0)) := by rw [hW0, heap_alloc_old _ _ (by simp)]; exact heap_alloc_new _ _
  have g1 : W0.heap[w.heap.size + 1]? = some (.cells (ncell g) 48 (0, 0)) := by
    have := heap_alloc_new (w.alloc (.cells (ncell f) 48)) (.cells (ncell g) 48)
    rw [World.size_alloc] at this
    rw [hW0]; exact this
  have b0 : Below w.heap.size w W0 := by rw [hW0]; go_grown
  have G0 := Box.mk g0; have G1 := Box.mk g1; have B0 := Box.mk b0; have HF := Box.mk hf; have HG := Box.mk hg
  clear g0 g1 b0 hf hg
  go_enter Try.func79, Try.ntmps79
  go_wp2_with fail
  rw [← hW0]
  clear hW0
  go_loopw [5] (fun i wr => ∃ m : Nat, m ≤ 16 ∧ i = .int .i64 ((m : Int) - 1) ∧ (∀ j, m ≤ j → j < 16 → f j = g j) ∧ wr.heap[w.heap.size]? = some (.cells (ncell f) 48 (0, 0)) ∧ wr.heap[w.heap.size + 1]? = some (.cells (ncell g) 48 (0, 0)) ∧ Below w.heap.size w wr) (fun i _ => (intOf i + 1).toNat)
  case atStart => exact ⟨16, by omega, rfl, fun j a b => by omega, G0.out, G1.out, B0.out⟩
  case round =>
    clear G0 G1 B0
    obtain ⟨m, hm, rfl, heq, ha, hb, hbel⟩ := hrel
    have HEQ := Box.mk heq; have HB := Box.mk hbel
    clear heq hbel
    rcases m with _ | k
    · have hs := nv_same (f := f) (g := g) (fun j hj => HEQ.out j (by omega) hj)
      have hl : ltN (nv f) (nv g) = false := by rw [ltN_eq, hs]; simp
      have HL := Box.mk hl
      clear ha hb hs hl
      go_wp2
      go_ret
      exact ⟨by rw [HL.out]; rfl, HB.out⟩
    · have hkI : (k : Int) < 16 := by omega
      rw [show ((k + 1 : Nat) : Int) - 1 = (k : Int) from by omega]
      have c0 : wr.cell? ⟨w.heap.size, k, none⟩ = some (.int .i64 (f k : Nat)) := by rw [cell_of_row _ _ _ _ _ _ ha]; exact ncell_get _ _ (by omega)
      have c1 : wr.cell? ⟨w.heap.size + 1, k, none⟩ = some (.int .i64 (g k : Nat)) := by rw [cell_of_row _ _ _ _ _ _ hb]; exact ncell_get _ _ (by omega)
      have HA := Box.mk ha; have HBB := Box.mk hb
      clear ha hb
      by_cases hne : f k = g k
      · have hneB : (((f k : Nat) : Int) != ((g k : Nat) : Int)) = false := by rw [hne]; simp
        have HNE := Box.mk hne
        clear hne
        go_wp2_with fail
        go_quiet (fail)
        go_wp2
        refine ⟨⟨k, by omega, rfl, fun j a b => ?_, HA.out, HBB.out, ?_⟩, by simp [intOf]⟩
        · rcases Nat.lt_or_ge k j with h | h
          · exact HEQ.out j h b
          · obtain rfl : j = k := by omega
            exact HNE.out
        · exact ⟨HB.out.os, HB.out.tape, HB.out.output, HB.out.size, HB.out.block⟩
      · have hneB : (((f k : Nat) : Int) != ((g k : Nat) : Int)) = true := by rw [bne_iff_ne]; omega
        have hlt := nv_below HF.out HG.out k (by omega) (fun j a b => HEQ.out j a b) hne
        have hl : ltN (nv f) (nv g) = decide (f k < g k) := by
          rw [ltN_eq]
          by_cases h : f k < g k
          · rw [decide_eq_true (hlt.2 h), decide_eq_true h]
          · rw [decide_eq_false (fun hh => h (hlt.1 hh)), decide_eq_false h]
        have HL := Box.mk hl
        clear hne hlt hl
        go_wp2_with fail
        go_quiet (fail)
        go_wp2_with fail
        go_quiet (fail)
        go_wp2
        go_ret
        exact ⟨by rw [HL.out]; rfl, ⟨HB.out.os, HB.out.tape, HB.out.output, HB.out.size, HB.out.block⟩⟩
set_option maxRecDepth 100000 in
set_option maxHeartbeats 2000000 in
theorem less_any (f g : Nat → Nat) (hf : Dig f) (hg : Dig g) (hle : nv g ≤ nv f) (w : World) :
    Calls Try.prog 63 #[.agg (ncell f), .agg (ncell g)] w fun e w' => ∃ h, e = .returned (.agg (ncell h)) ∧ Dig h ∧ nv h = nv f - nv g ∧ Below w.heap.size w w' := by
  have hz := zeroN
  obtain ⟨W0, hW0⟩ : ∃ W, W = ((w.alloc (.cells (ncell f) 48)).alloc (.cells (ncell g) 48)).alloc (.cells (ncell f0) 48) := ⟨_, rfl⟩
  have g0 : W0.heap[w.heap.size]? = some (.cells (ncell f) 48 (0, 0)) := by rw [hW0, heap_alloc_old _ _ (by simp; omega), heap_alloc_old _ _ (by simp)]; exact heap_alloc_new _ _
  have g1 : W0.heap[w.heap.size + 1]? = some (.cells (ncell g) 48 (0, 0)) := by
    have := heap_alloc_new (w.alloc (.cells (ncell f) 48)) (.cells (ncell g) 48)
    rw [World.size_alloc] at this
    rw [hW0, heap_alloc_old _ _ (by simp)]; exact this
  have g2 : W0.heap[w.heap.size + 2]? = some (.cells (ncell f0) 48 (0, 0)) := by
    have := heap_alloc_new ((w.alloc (.cells (ncell f) 48)).alloc (.cells (ncell g) 48)) (.cells (ncell f0) 48)
    rw [World.size_alloc, World.size_alloc] at this
    rw [hW0]; exact this
  have b0 : Below w.heap.size w W0 := by rw [hW0]; go_grown
  have G0 := Box.mk g0; have G1 := Box.mk g1; have G2 := Box.mk g2; have B0 := Box.mk b0; have HF := Box.mk hf; have HG := Box.mk hg; have HLE := Box.mk hle
  clear g0 g1 g2 b0 hf hg hle
  go_enter Try.func63, Try.ntmps63
  go_wp2_with fail
  rw [← hW0]
  clear hW0 hz
  go_loopw [5, 6, 7] (fun uv i _ wr => ∃ (k u : Nat) (h : Nat → Nat), k ≤ 16 ∧ i = .int .i64 k ∧ uv = .int .i64 u ∧ Les f g k h u ∧ wr.heap[w.heap.size]? = some (.cells (ncell h) 48 (0, 0)) ∧ wr.heap[w.heap.size + 1]? = some (.cells (ncell g) 48 (0, 0)) ∧ wr.heap[w.heap.size + 2]? = some (.cells (ncell f0) 48 (0, 0)) ∧ Below w.heap.size w wr) (fun _ i _ _ => (16 - intOf i).toNat)
  case atStart => exact ⟨0, 0, f, by omega, rfl, rfl, Les.start f g, G0.out, G1.out, G2.out, B0.out⟩
  case round =>
    clear G0 G1 G2 B0
    obtain ⟨k, u, h, hk, rfl, rfl, hles, ha, hb, hr, hbel⟩ := hrel
    by_cases hkl : k < 16
    · have hkI : (k : Int) < 16 := by omega
      have bf := HF.out k hkl
      have bg := HG.out k hkl
      have hup := hles.up k (Nat.le_refl _)
      have hbor := hles.bor
      have c0 : wr.cell? ⟨w.heap.size, k, none⟩ = some (.int .i64 (h k : Nat)) := by rw [cell_of_row _ _ _ _ _ _ ha]; exact ncell_get _ _ hkl
      have c1 : wr.cell? ⟨w.heap.size + 1, k, none⟩ = some (.int .i64 (g k : Nat)) := by rw [cell_of_row _ _ _ _ _ _ hb]; exact ncell_get _ _ hkl
      have z0 : ∀ o, wr.frozen? ⟨w.heap.size, o, none⟩ = false := fun o => frozen_of_row _ _ _ _ _ ha
      have z0 := z0 k
      have HSET := Box.mk (ncell_set h k hkl)
      rw [hup] at c0
      by_cases hneg : f k < g k + u
      case' pos =>
        obtain ⟨x, hx⟩ : ∃ x, x = f k + 65536 - g k - u := ⟨_, rfl⟩
        obtain ⟨v, hv⟩ : ∃ v, v = 1 := ⟨_, rfl⟩
        have hst := hles.step bf bg x v (by omega) (by omega) (by omega)
      case' neg =>
        obtain ⟨x, hx⟩ : ∃ x, x = f k - g k - u := ⟨_, rfl⟩
        obtain ⟨v, hv⟩ : ∃ v, v = 0 := ⟨_, rfl⟩
        have hst := hles.step bf bg x v (by omega) (by omega) (by omega)
      all_goals
        have HST := Box.mk hst; have HA := Box.mk ha; have HBB := Box.mk hb; have HR := Box.mk hr; have HBE := Box.mk hbel; have HV := Box.mk hv
        clear hst ha hb hr hbel hles hup hv
        obtain ⟨y, hy⟩ : ∃ y : Int, y = ((f k : Nat) : Int) - ((g k : Nat) : Int) - (u : Int) := ⟨_, rfl⟩
        have w1 : IntKind.i64.wrap (((f k : Nat) : Int) - ((g k : Nat) : Int)) = ((f k : Nat) : Int) - ((g k : Nat) : Int) := by rw [IntKind.wrap_i64]; omega
        have w2 : IntKind.i64.wrap (((f k : Nat) : Int) - ((g k : Nat) : Int) - (u : Int)) = y := by rw [IntKind.wrap_i64]; omega
      case pos =>
        have hyn : y < 0 := by omega
        have hyb : y + 65536 = (x : Int) := by omega
        have hylo : -65536 ≤ y := by omega
        clear hy hx hneg
        go_wp2_with fail
        go_quiet (fail)
        go_wp2_with fail
        refine ⟨⟨k + 1, 1, upd h k x, by omega, by go_num, rfl, (by have := HST.out; have e := HV.out; subst e; exact this), ?_, ?_, ?_, ?_⟩, by simp [intOf]; omega⟩
        · rw [heap_setCell_same _ _ _ _ _ _ (show (wr.drewN nq).heap[w.heap.size]? = _ from HA.out), HSET.out x _ rfl]
        · rw [heap_setCell_other _ _ _ _ (by simp)]; exact HBB.out
        · rw [heap_setCell_other _ _ _ _ (by simp)]; exact HR.out
        · exact Below.setCell (w := wr.drewN nq) (p := ⟨w.heap.size, k, none⟩) ⟨HBE.out.os, HBE.out.tape, HBE.out.output, HBE.out.size, HBE.out.block⟩ (Nat.le_refl _) _
      case neg =>
        have hyn : ¬ y < 0 := by omega
        have hyb : y = (x : Int) := by omega
        clear hy hx hneg
        subst hyb
        go_wp2_with fail
        go_quiet (fail)
        go_wp2_with fail
        refine ⟨⟨k + 1, 0, upd h k x, by omega, by go_num, rfl, (by have := HST.out; have e := HV.out; subst e; exact this), ?_, ?_, ?_, ?_⟩, by simp [intOf]; omega⟩
        · rw [heap_setCell_same _ _ _ _ _ _ (show (wr.drewN nq).heap[w.heap.size]? = _ from HA.out), HSET.out x _ rfl]
        · rw [heap_setCell_other _ _ _ _ (by simp)]; exact HBB.out
        · rw [heap_setCell_other _ _ _ _ (by simp)]; exact HR.out
        · exact Below.setCell (w := wr.drewN nq) (p := ⟨w.heap.size, k, none⟩) ⟨HBE.out.os, HBE.out.tape, HBE.out.output, HBE.out.size, HBE.out.block⟩ (Nat.le_refl _) _
    · obtain rfl : k = 16 := by omega
      obtain ⟨hd, hv⟩ := hles.done HF.out HLE.out
      have HA := Box.mk ha; have HR := Box.mk hr; have HBE := Box.mk hbel; have HD := Box.mk hd; have HV := Box.mk hv
      clear ha hb hr hbel hles hd hv
      go_wp2_with (first
        | ((with_reducible refine wpList_loadN rfl (.tmp 2) rfl w.heap.size h HA.out ?_ ?_); rfl)
        | ((with_reducible refine wpList_storeN rfl (.tmp 4) (.tmp 28) rfl (w.heap.size + 2) h f0 HR.out ?_ ?_ ?_); rfl; rfl))
      go_frame
      refine bodyPost_ret (results_cell_row (p := 4) (ty := 48) rfl _ _ (w.heap.size + 2) 48 (ncell h) (0, 0) _ rfl (setRow_heap _ _ _ _ _ _ HR.out) Try.underlying48 rfl (by kernel_rfl)) rfl ⟨h, rfl, HD.out, HV.out, ?_⟩
      exact below_setRow HBE.out (by omega) _
end Go.Proofs.Ytpgichfagodkpaa.Fe
