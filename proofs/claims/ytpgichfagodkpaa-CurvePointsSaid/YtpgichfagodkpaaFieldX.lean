/- The document's numbers: half. -/
import Derived.Test.YtpgichfagodkpaaFieldW
namespace Go.Proofs.Ytpgichfagodkpaa.Fe
set_option linter.unusedVariables false
open Go Go.RowKit

/-- i digits are halved. -/
def hfF (n i : Nat) : Nat → Nat := fun j => if j < i then dg (n / 2) j else dg n j
theorem hfF_zero (n : Nat) : hfF n 0 = dg n := by funext j; simp [hfF]
theorem hfF_all (n : Nat) : ncell (hfF n 16) = ncell (dg (n / 2)) := ncell_congr fun j hj => by unfold hfF; rw [if_pos hj]
theorem hfF_at (n i : Nat) : hfF n i i = dg n i := by simp [hfF]
theorem hfF_step (n i : Nat) : upd (hfF n i) i (dg (n / 2) i) = hfF n (i + 1) := by
  funext j
  simp only [upd, hfF]
  by_cases h : j = i
  · subst h; rw [if_pos rfl, if_pos (by omega)]
  · rw [if_neg h]
    by_cases h2 : j < i
    · rw [if_pos h2, if_pos (by omega)]
    · rw [if_neg h2, if_neg (by omega)]
theorem half_low (n i : Nat) : dg (n / 2) i = dg n i / 2 + dg n (i + 1) % 2 * 32768 := by
  rw [dg_eq, dg_eq, dg_eq, Nat.mul_add, Nat.pow_add, ← Nat.div_div_eq_div_mul n (2 ^ (16 * i)), Nat.div_div_eq_div_mul n 2, Nat.mul_comm 2, ← Nat.div_div_eq_div_mul n (2 ^ (16 * i)) 2]
  generalize n / 2 ^ (16 * i) = q
  omega
theorem half_top (n : Nat) (hn : n < dw 16) : dg (n / 2) 15 = dg n 15 / 2 := by
  rw [dg_eq, dg_eq, Nat.div_div_eq_div_mul n 2, Nat.mul_comm 2, ← Nat.div_div_eq_div_mul n (2 ^ (16 * 15)) 2]
  have : n / 2 ^ (16 * 15) < 65536 := Nat.div_lt_of_lt_mul hn
  generalize n / 2 ^ (16 * 15) = q at this
  omega
set_option maxRecDepth 100000 in
set_option maxHeartbeats 4000000 in
theorem halfD (w : World) (n : Nat) (hn : n < dw 16) (t : Nat) (ht : t ≤ 1000) :
    Calls Try.prog 81 #[.agg (ncell (dg n)), .int .i64 t] w fun e w' => e = .returned (.agg (ncell (dg (n / 2 ^ t)))) ∧ Gr w w' := by
  have hz := zeroN
  obtain ⟨W0, hW0⟩ : ∃ W, W = (((w.alloc (.cells (ncell (dg n)) 48)).alloc (.cells (ncell f0) 48)).alloc (.cells (ncell f0) 48)).setRow (w.heap.size + 2) (ncell (dg n)) := ⟨_, rfl⟩
  have h2 : (((w.alloc (.cells (ncell (dg n)) 48)).alloc (.cells (ncell f0) 48)).alloc (.cells (ncell f0) 48)).heap[w.heap.size + 2]? = some (.cells (ncell f0) 48 (0, 0)) := by
    have := heap_alloc_new ((w.alloc (.cells (ncell (dg n)) 48)).alloc (.cells (ncell f0) 48)) (.cells (ncell f0) 48)
    rwa [World.size_alloc, World.size_alloc] at this
  have ha0 : ((w.alloc (.cells (ncell (dg n)) 48)).alloc (.cells (ncell f0) 48)).heap[w.heap.size]? = some (.cells (ncell (dg n)) 48 (0, 0)) := by
    rw [heap_alloc_old _ _ (by simp)]; exact heap_alloc_new _ _
  have g2 : W0.heap[w.heap.size + 2]? = some (.cells (ncell (dg n)) 48 (0, 0)) := by rw [hW0]; exact setRow_heap _ _ _ _ _ _ h2
  have g0 : W0.heap[w.heap.size]? = some (.cells (ncell (dg n)) 48 (0, 0)) := by
    rw [hW0, setRow_other _ _ _ _ (by omega), heap_alloc_old _ _ (by simp; omega), heap_alloc_old _ _ (by simp)]; exact heap_alloc_new _ _
  have g1 : W0.heap[w.heap.size + 1]? = some (.cells (ncell f0) 48 (0, 0)) := by
    have := heap_alloc_new (w.alloc (.cells (ncell (dg n)) 48)) (.cells (ncell f0) 48)
    rw [World.size_alloc] at this
    rw [hW0, setRow_other _ _ _ _ (by omega), heap_alloc_old _ _ (by simp)]; exact this
  have b0 : Below w.heap.size w W0 := by rw [hW0]; exact below_setRow (by go_grown) (by omega) _
  have H2 := Box.mk h2; have HA0 := Box.mk ha0; have G0 := Box.mk g0; have G1 := Box.mk g1; have G2 := Box.mk g2; have B0 := Box.mk b0; have HN := Box.mk hn
  clear h2 ha0 g0 g1 g2 b0 hn
  go_enter Try.func81, Try.ntmps81
  go_upto_region 2 with (first
    | ((with_reducible refine wpList_loadN rfl (.tmp 2) rfl w.heap.size (dg n) HA0.out ?_ ?_); rfl)
    | ((with_reducible refine wpList_storeN rfl (.tmp 5) (.tmp 8) rfl (w.heap.size + 2) (dg n) f0 H2.out ?_ ?_ ?_); rfl; rfl))
  go_frame
  rw [← hW0]
  clear hW0 hz H2 HA0
  have htI : (t : Int) ≤ 1000 := by omega
  go_wp2_with fail
  go_loopw [6, 7] (fun i _ wr => ∃ j : Nat, j ≤ t ∧ i = .int .i64 j ∧ wr.heap[w.heap.size]? = some (.cells (ncell (dg (n / 2 ^ j))) 48 (0, 0)) ∧ wr.heap[w.heap.size + 1]? = some (.cells (ncell f0) 48 (0, 0)) ∧ wr.heap[w.heap.size + 2]? = some (.cells (ncell (dg (n / 2 ^ j))) 48 (0, 0)) ∧ Below w.heap.size w wr) (fun i _ _ => (t - intOf i).toNat)
  case atStart => exact ⟨0, by omega, rfl, by simpa using G0.out, G1.out, by simpa using G2.out, B0.out⟩
  case round =>
    clear G0 G1 G2 B0
    obtain ⟨j, hj, rfl, ha, hr, hx, hbel⟩ := hrel
    have HA := Box.mk ha; have HR := Box.mk hr; have HX := Box.mk hx; have HBEL := Box.mk hbel
    clear ha hr hx hbel
    by_cases hjt : j < t
    · have hjI : (j : Int) < (t : Int) := by omega
      have hjb : (j : Int) < 1000 := by omega
      obtain ⟨q, hq⟩ : ∃ q, q = n / 2 ^ j := ⟨_, rfl⟩
      have hqd : q < dw 16 := by rw [hq]; exact Nat.lt_of_le_of_lt (Nat.div_le_self _ _) HN.out
      rw [← hq] at HA HX
      have HQ := Box.mk hq; have HQD := Box.mk hqd
      clear hq hqd
      go_wp2_with fail
      obtain ⟨wo, rfl⟩ : ∃ wo : World, wo = wr := ⟨_, rfl⟩
      go_loopw [7] (fun k wr => ∃ m : Nat, m ≤ 16 ∧ k = .int .i64 m ∧ wr.heap[w.heap.size]? = some (.cells (ncell (dg q)) 48 (0, 0)) ∧ wr.heap[w.heap.size + 1]? = some (.cells (ncell f0) 48 (0, 0)) ∧ wr.heap[w.heap.size + 2]? = some (.cells (ncell (hfF q m)) 48 (0, 0)) ∧ Below w.heap.size w wr) (fun k _ => (16 - intOf k).toNat)
      case atStart => exact ⟨0, by omega, rfl, HA.out, HR.out, by rw [hfF_zero]; exact HX.out, HBEL.out⟩
      case round =>
        clear HA HR HX HBEL
        obtain ⟨m, hm, rfl, ha, hr, hx, hbel⟩ := hrel
        by_cases hml : m < 16
        · have hmI : (m : Int) < 16 := by omega
          have cx : wr.cell? ⟨w.heap.size + 2, m, none⟩ = some (.int .i64 (hfF q m m : Nat)) := by rw [cell_of_row _ _ _ _ _ _ hx]; exact ncell_get _ _ hml
          have zx : wr.frozen? ⟨w.heap.size + 2, m, none⟩ = false := frozen_of_row _ _ _ _ _ hx
          rw [hfF_at] at cx
          have HSET := Box.mk (fun f => ncell_set f m hml)
          have HST := Box.mk (hfF_step q m)
          have hd := dg_dig q m hml
          by_cases hm15 : m < 15
          · have hm15I : (m : Int) < 15 := by omega
            have ca : wr.cell? ⟨w.heap.size, m + 1, none⟩ = some (.int .i64 (dg q (m + 1) : Nat)) := by rw [cell_of_row _ _ _ _ _ _ ha]; exact ncell_get _ _ (by omega)
            have hd1 := dg_dig q (m + 1) (by omega)
            have hlow := half_low q m
            have HLOW := Box.mk hlow
            obtain ⟨m1, hm1⟩ : ∃ m1, m1 = m + 1 := ⟨_, rfl⟩
            have hm1I : (m : Int) + 1 = (m1 : Int) := by omega
            have hm1b : (m1 : Int) < 16 := by omega
            rw [← hm1] at ca HLOW hd1
            have HM1 := Box.mk hm1
            obtain ⟨x, hx'⟩ : ∃ x, x = dg q m := ⟨_, rfl⟩
            obtain ⟨u, hu⟩ : ∃ u, u = dg q m1 := ⟨_, rfl⟩
            rw [← hx'] at cx hd HLOW
            rw [← hu] at ca hd1 HLOW
            obtain ⟨h, hh⟩ : ∃ h, h = x / 2 := ⟨_, rfl⟩
            obtain ⟨v, hv⟩ : ∃ v, v = u % 2 := ⟨_, rfl⟩
            have ex : (x : Int) / 2 = (h : Int) := by omega
            have eu : (u : Int) % 2 = (v : Int) := by omega
            have hhb : (h : Int) < 32768 := by omega
            have hvb : (v : Int) < 2 := by omega
            rw [← hh, ← hv] at HLOW
            obtain ⟨z, hz⟩ : ∃ z, z = h + v * 32768 := ⟨_, rfl⟩
            rw [← hz] at HLOW
            have ev : (v : Int) * 32768 = ((v * 32768 : Nat) : Int) := by omega
            have hw1 : IntKind.i64.wrap ((v : Int) * 32768) = (v : Int) * 32768 := by rw [IntKind.wrap_i64]; omega
            have hw2 : IntKind.i64.wrap ((h : Int) + (v : Int) * 32768) = (z : Int) := by rw [IntKind.wrap_i64]; omega
            have hw3 : IntKind.i64.wrap (m1 : Int) = (m1 : Int) := by rw [IntKind.wrap_i64]; omega
            have HU := Box.mk hu; have HZ := Box.mk hz
            have HBEL := Box.mk hbel
            clear hlow hm1 hx' hu hh hv hz ev
            obtain ⟨W1, hW1⟩ : ∃ W, W = wr.setCell ⟨w.heap.size + 1 + 1, m, none⟩ (.int .i64 h) := ⟨_, rfl⟩
            go_upto_region 10 with (fail)
            rw [← hW1]
            have qa : W1.heap[w.heap.size]? = some (.cells (ncell (dg q)) 48 (0, 0)) := by rw [hW1, heap_setCell_other _ _ _ _ (by simp <;> omega)]; exact ha
            have qr : W1.heap[w.heap.size + 1]? = some (.cells (ncell f0) 48 (0, 0)) := by rw [hW1, heap_setCell_other _ _ _ _ (by simp <;> omega)]; exact hr
            have qx : W1.heap[w.heap.size + 2]? = some (.cells (ncell (upd (hfF q m) m h)) 48 (0, 0)) := by
              rw [hW1, heap_setCell_same _ _ _ _ _ _ hx, HSET.out _ h _ rfl]
            have qb : Below w.heap.size w W1 := by rw [hW1]; exact HBEL.out.setCell (by simp <;> omega) _
            have cx1 : W1.cell? ⟨w.heap.size + 2, m, none⟩ = some (.int .i64 (h : Nat)) := by rw [cell_of_row _ _ _ _ _ _ qx, ncell_get _ _ hml, upd_same]
            have zx1 : W1.frozen? ⟨w.heap.size + 2, m, none⟩ = false := frozen_of_row _ _ _ _ _ qx
            have ca1 : W1.cell? ⟨w.heap.size, m1, none⟩ = some (.int .i64 (u : Nat)) := by rw [cell_of_row _ _ _ _ _ _ qa, ncell_get _ _ (by omega), HU.out]
            have QA := Box.mk qa; have QR := Box.mk qr; have QX := Box.mk qx; have QB := Box.mk qb
            clear ha hr hx hbel cx zx ca HBEL hW1 qa qr qx qb ex
            go_still_tail 11, (by kernel_rfl)
            go_wp2
            refine ⟨⟨m + 1, by omega, by go_num, ?_, ?_, ?_, (QB.out.setCell (by simp <;> omega) _).drew⟩, by simp [intOf]; omega⟩
            · rw [heap_drew, heap_setCell_other _ _ _ _ (by simp <;> omega)]; exact QA.out
            · rw [heap_drew, heap_setCell_other _ _ _ _ (by simp <;> omega)]; exact QR.out
            · rw [heap_drew, heap_setCell_same _ _ _ _ _ _ QX.out, HSET.out _ z _ (by rw [HZ.out]; omega), upd_upd, ← HLOW.out, HST.out]
          · obtain rfl : m = 15 := by omega
            have htop := half_top q HQD.out
            have HTOP := Box.mk htop
            obtain ⟨x, hx'⟩ : ∃ x, x = dg q 15 := ⟨_, rfl⟩
            rw [← hx'] at cx hd HTOP
            obtain ⟨h, hh⟩ : ∃ h, h = x / 2 := ⟨_, rfl⟩
            have ex : (x : Int) / 2 = (h : Int) := by omega
            rw [← hh] at HTOP
            have HA := Box.mk ha; have HR := Box.mk hr; have HX := Box.mk hx; have HBEL := Box.mk hbel
            clear ha hr hx hbel htop hx' hh
            go_wp2_with fail
            refine ⟨⟨16, by omega, by go_num, ?_, ?_, ?_, HBEL.out.setCell (by simp <;> omega) _⟩, by simp [intOf] <;> omega⟩
            · rw [heap_setCell_other _ _ _ _ (by simp <;> omega)]; exact HA.out
            · rw [heap_setCell_other _ _ _ _ (by simp <;> omega)]; exact HR.out
            · rw [heap_setCell_same _ _ _ _ _ _ HX.out, HSET.out _ h _ rfl, ← HTOP.out, HST.out]
        · obtain rfl : m = 16 := by omega
          rw [hfF_all] at hx
          have HA := Box.mk ha; have HR := Box.mk hr; have HX := Box.mk hx; have HBEL := Box.mk hbel
          clear ha hr hx hbel
          go_wp2_with (first
            | ((with_reducible refine wpList_loadN rfl (.tmp 5) rfl (w.heap.size + 2) (dg (q / 2)) HX.out ?_ ?_); rfl)
            | ((with_reducible refine wpList_storeN rfl (.tmp 2) (.tmp 37) rfl w.heap.size (dg (q / 2)) (dg q) HA.out ?_ ?_ ?_); rfl; rfl))
          have hq2 : n / 2 ^ (j + 1) = q / 2 := by rw [HQ.out, Nat.pow_succ, Nat.div_div_eq_div_mul]
          refine ⟨⟨j + 1, by omega, by go_num, ?_, ?_, ?_, below_setRow HBEL.out (Nat.le_refl _) _⟩, by simp [intOf]; omega⟩
          · rw [hq2]; exact setRow_heap _ _ _ _ _ _ HA.out
          · rw [setRow_other _ _ _ _ (by omega)]; exact HR.out
          · rw [hq2, setRow_other _ _ _ _ (by omega)]; exact HX.out
    · obtain rfl : j = t := by omega
      go_wp2_with (first
        | ((with_reducible refine wpList_loadN rfl (.tmp 5) rfl (w.heap.size + 2) (dg (n / 2 ^ j)) HX.out ?_ ?_); rfl)
        | ((with_reducible refine wpList_storeN rfl (.tmp 4) (.tmp 38) rfl (w.heap.size + 1) (dg (n / 2 ^ j)) f0 HR.out ?_ ?_ ?_); rfl; rfl))
      go_frame
      refine bodyPost_ret (results_cell_row (p := 4) (ty := 48) rfl _ _ (w.heap.size + 1) 48 (ncell _) (0, 0) _ rfl (setRow_heap _ _ _ _ _ _ HR.out) Try.underlying48 rfl (by kernel_rfl)) rfl ⟨rfl, ?_⟩
      exact below_setRow HBEL.out (by omega) _
end Go.Proofs.Ytpgichfagodkpaa.Fe
