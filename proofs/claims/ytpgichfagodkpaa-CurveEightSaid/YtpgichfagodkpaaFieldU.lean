/- The document's numbers: digits, Bytes. -/
import Derived.Test.YtpgichfagodkpaaFieldT
import Derived.Test.YtpgichfagodkpaaFieldJ
namespace Go.Proofs.Ytpgichfagodkpaa.Fe
set_option linter.unusedVariables false
open Go Go.RowKit

/-- Two bytes of a string as a digit. -/
def sd (s : ByteArray) (j : Nat) : Nat := (s.data.toList.getD (2 * j) 0).toNat + 256 * (s.data.toList.getD (2 * j + 1) 0).toNat
theorem sd_lt (s : ByteArray) (j : Nat) : sd s j < 65536 := by
  have := (s.data.toList.getD (2 * j) 0).toNat_lt
  have := (s.data.toList.getD (2 * j + 1) 0).toNat_lt
  unfold sd; omega
theorem sd_at (s : ByteArray) (j : Nat) (h : 2 * j + 1 < s.size) : sd s j = s[2 * j].toNat + 256 * s[2 * j + 1].toNat := by
  have e1 : s.data.toList.getD (2 * j) 0 = s[2 * j] := by
    rw [List.getD_eq_getElem?_getD, List.getElem?_eq_getElem (by simp; omega)]; rfl
  have e2 : s.data.toList.getD (2 * j + 1) 0 = s[2 * j + 1] := by
    rw [List.getD_eq_getElem?_getD, List.getElem?_eq_getElem (by simp; omega)]; rfl
  unfold sd; rw [e1, e2]
theorem pn_sd (s : ByteArray) : ∀ k, 2 * k ≤ s.size → pn (sd s) k = leNat (s.data.toList.take (2 * k))
  | 0, _ => rfl
  | k + 1, h => by
    rw [pn, pn_sd s k (by omega), show 2 * (k + 1) = 2 * k + 1 + 1 by omega, take_snoc s (2 * k + 1) (by omega), leNat_snoc, take_snoc s (2 * k) (by omega), leNat_snoc, sd_at s k (by omega)]
    simp only [List.length_take, List.length_append, List.length_cons, List.length_nil]
    have hl : s.data.toList.length = s.size := by simp
    rw [Nat.min_eq_left (by omega), Nat.pow_succ, show 256 ^ (2 * k) = dw k from by unfold dw; rw [show 16 * k = 8 * (2 * k) by omega, Nat.pow_mul 2 8], Nat.mul_add, Nat.mul_assoc, Nat.add_assoc]
/-- k digits are laid. -/
def sdF (s : ByteArray) (k : Nat) : Nat → Nat := fun j => if j < k then sd s j else 0
theorem sdF_zero (s : ByteArray) : sdF s 0 = f0 := by funext j; simp [sdF, f0]
theorem sdF_step (s : ByteArray) (k : Nat) : upd (sdF s k) k (sd s k) = sdF s (k + 1) := by
  funext j; simp only [upd, sdF]; split
  · rename_i h; subst h; rw [if_pos (by omega)]
  · split
    · rw [if_pos (by omega)]
    · rw [if_neg (by omega)]
theorem sdF_all (s : ByteArray) (hs : s.size = 32) : ncell (sdF s 16) = ncell (dg (Go.Proofs.Ytpgichfagodkpaa.num s)) := by
  refine ncell_of (fun j hj => by unfold sdF; rw [if_pos hj]; exact sd_lt s j) ?_
  have e : nv (sdF s 16) = pn (sd s) 16 := pn_congr 16 fun j hj => by unfold sdF; rw [if_pos hj]
  rw [e, pn_sd s 16 (by omega)]
  unfold Go.Proofs.Ytpgichfagodkpaa.num
  rw [List.take_of_length_le (by simp; omega)]
set_option maxRecDepth 100000 in
set_option maxHeartbeats 2000000 in
theorem digitsD (s : ByteArray) (hs : s.size = 32) (w : World) :
    Calls Try.prog 80 #[.string s] w fun e w' => e = .returned (.agg (ncell (dg (Go.Proofs.Ytpgichfagodkpaa.num s)))) ∧ Gr w w' := by
  have hz := zeroN
  obtain ⟨W0, hW0⟩ : ∃ W, W = ((w.alloc (.cells (ncell f0) 48)).alloc (.cells (ncell f0) 48)).setRow (w.heap.size + 1) (ncell f0) := ⟨_, rfl⟩
  have h0 : ((w.alloc (.cells (ncell f0) 48)).alloc (.cells (ncell f0) 48)).heap[w.heap.size + 1]? = some (.cells (ncell f0) 48 (0, 0)) := by
    have := heap_alloc_new (w.alloc (.cells (ncell f0) 48)) (.cells (ncell f0) 48)
    rwa [World.size_alloc] at this
  have g1 : W0.heap[w.heap.size + 1]? = some (.cells (ncell (sdF s 0)) 48 (0, 0)) := by rw [hW0, sdF_zero]; exact setRow_heap _ _ _ _ _ _ h0
  have g0 : W0.heap[w.heap.size]? = some (.cells (ncell f0) 48 (0, 0)) := by
    rw [hW0, setRow_other _ _ _ _ (by omega), heap_alloc_old _ _ (by simp)]; exact heap_alloc_new _ _
  have b0 : Below w.heap.size w W0 := by rw [hW0]; exact below_setRow (by go_grown) (by omega) _
  have H0 := Box.mk h0; have G0 := Box.mk g0; have G1 := Box.mk g1; have B0 := Box.mk b0; have HS := Box.mk hs
  clear h0 g0 g1 b0 hs
  go_enter Try.func80, Try.ntmps80
  go_upto_region 2 with ((with_reducible refine wpList_storeN rfl (.tmp 3) (.tmp 5) rfl (w.heap.size + 1) f0 f0 H0.out ?_ ?_ ?_); rfl; rfl)
  go_frame
  rw [← hW0]
  clear hW0 hz H0
  go_wp2_with fail
  go_loopw [4] (fun i wr => ∃ j : Nat, j ≤ 16 ∧ i = .int .i64 j ∧ wr.heap[w.heap.size]? = some (.cells (ncell f0) 48 (0, 0)) ∧ wr.heap[w.heap.size + 1]? = some (.cells (ncell (sdF s j)) 48 (0, 0)) ∧ Below w.heap.size w wr) (fun i _ => (16 - intOf i).toNat)
  case atStart => exact ⟨0, by omega, rfl, G0.out, G1.out, B0.out⟩
  case round =>
    clear G0 G1 B0
    obtain ⟨j, hj, rfl, hr, ha, hbel⟩ := hrel
    by_cases hjl : j < 16
    · have hjI : (j : Int) < 16 := by omega
      have z0 : wr.frozen? ⟨w.heap.size + 1, j, none⟩ = false := frozen_of_row _ _ _ _ _ ha
      have c0 : wr.cell? ⟨w.heap.size + 1, j, none⟩ = some (.int .i64 (sdF s j j : Nat)) := by rw [cell_of_row _ _ _ _ _ _ ha]; exact ncell_get _ _ hjl
      have hsz := HS.out
      have hi0 : 2 * j < s.size := by omega
      have hi1 : 2 * j + 1 < s.size := by omega
      have hsd := sd_at s j hi1
      obtain ⟨p, hp⟩ : ∃ p, p = 2 * j := ⟨_, rfl⟩
      obtain ⟨q, hq⟩ : ∃ q, q = p + 1 := ⟨_, rfl⟩
      have hw0 : IntKind.i64.wrap (2 * (j : Int)) = (p : Int) := by rw [IntKind.wrap_i64]; omega
      have hw1 : IntKind.i64.wrap ((p : Int) + 1) = (q : Int) := by rw [IntKind.wrap_i64]; omega
      have hps : (p : Int) < (s.size : Int) := by omega
      have hqs : (q : Int) < (s.size : Int) := by omega
      have hp1 : p < s.size := by omega
      have hq1 : q < s.size := by omega
      have hx : s[p].toNat + 256 * s[q].toNat = sd s j := by subst hq; subst hp; exact hsd.symm
      have b1 := s[p].toNat_lt
      have b2 := s[q].toNat_lt
      have HX := Box.mk hx
      have HSET := Box.mk (ncell_set (sdF s j) j hjl)
      have HST := Box.mk (sdF_step s j)
      have HA := Box.mk ha; have HR := Box.mk hr; have HBEL := Box.mk hbel
      clear ha hr hbel hsd hsz hp hq hx hi0 hi1
      go_wp2_with fail
      go_still_tail 15, (by kernel_rfl)
      go_wp2
      refine ⟨⟨j + 1, by omega, by go_num, ?_, ?_, (HBEL.out.setCell (by simp) _).drew⟩, by simp [intOf]; omega⟩
      · rw [heap_drew, heap_setCell_other _ _ _ _ (by simp)]; exact HR.out
      · rw [heap_drew, heap_setCell_same _ _ _ _ _ _ HA.out, HSET.out (sd s j) _ (by rw [← HX.out]; omega), HST.out]
    · obtain rfl : j = 16 := by omega
      rw [sdF_all s HS.out] at ha
      have HA := Box.mk ha; have HR := Box.mk hr; have HBEL := Box.mk hbel
      clear ha hr hbel
      go_wp2_with (first
        | ((with_reducible refine wpList_loadN rfl (.tmp 3) rfl (w.heap.size + 1) (dg (Go.Proofs.Ytpgichfagodkpaa.num s)) HA.out ?_ ?_); rfl)
        | ((with_reducible refine wpList_storeN rfl (.tmp 2) (.tmp 25) rfl w.heap.size (dg (Go.Proofs.Ytpgichfagodkpaa.num s)) f0 HR.out ?_ ?_ ?_); rfl; rfl))
      go_frame
      refine bodyPost_ret (results_cell_row (p := 2) (ty := 48) rfl _ _ w.heap.size 48 (ncell _) (0, 0) _ rfl (setRow_heap _ _ _ _ _ _ HR.out) Try.underlying48 rfl (by kernel_rfl)) rfl ⟨rfl, ?_⟩
      exact below_setRow HBEL.out (Nat.le_refl _) _

theorem bcells_get (n k c i : Nat) (h : i < c) : (bcells n k c)[i]? = some (.int .u8 ((if i < k then n / 256 ^ i % 256 else 0 : Nat) : Int)) := by simp [bcells, h]
theorem dg_low (n j : Nat) : dg n j % 256 = n / 256 ^ (2 * j) % 256 := by
  rw [dg_eq, show (2 : Nat) ^ (16 * j) = 256 ^ (2 * j) from by rw [show 16 * j = 8 * (2 * j) by omega, Nat.pow_mul]]; omega
theorem dg_high (n j : Nat) : dg n j / 256 = n / 256 ^ (2 * j + 1) % 256 := by
  rw [dg_eq, Nat.pow_succ, ← Nat.div_div_eq_div_mul, show (2 : Nat) ^ (16 * j) = 256 ^ (2 * j) from by rw [show 16 * j = 8 * (2 * j) by omega, Nat.pow_mul]]; omega
set_option maxRecDepth 100000 in
set_option maxHeartbeats 2000000 in
theorem bytesD (n : Nat) (w : World) :
    Calls Try.prog 41 #[.agg (ncell (dg n))] w fun e w' => e = .returned (.string (sbytes n)) ∧ Gr w w' := by
  have hmk : ∀ w, (Instr.makeSlice 31 (.int .i64 32) (.int .i64 32)).run Try.prog w = .ok (.slice (some ⟨w.heap.size, 0, none⟩) 32 32) (w.alloc (.cells (bcells 0 0 32) 5)) := fun _ => by kernel_rfl
  obtain ⟨W0, hW0⟩ : ∃ W, W = (w.alloc (.cells (ncell (dg n)) 48)).alloc (.cells (bcells 0 0 32) 5) := ⟨_, rfl⟩
  have g0 : W0.heap[w.heap.size]? = some (.cells (ncell (dg n)) 48 (0, 0)) := by rw [hW0, heap_alloc_old _ _ (by simp)]; exact heap_alloc_new _ _
  have g1 : W0.heap[w.heap.size + 1]? = some (.cells (bcells n (2 * 0) 32) 5 (0, 0)) := by
    have := heap_alloc_new (w.alloc (.cells (ncell (dg n)) 48)) (.cells (bcells 0 0 32) 5)
    rw [World.size_alloc] at this
    rw [hW0, this]; simp [bcells]
  have b0 : Below w.heap.size w W0 := by rw [hW0]; go_grown
  have G0 := Box.mk g0; have G1 := Box.mk g1; have B0 := Box.mk b0
  clear g0 g1 b0
  go_enter Try.func41, Try.ntmps41
  go_wp2_with fail
  rw [← hW0]
  clear hW0 hmk
  go_loopw [4] (fun i wr => ∃ j : Nat, j ≤ 16 ∧ i = .int .i64 j ∧ wr.heap[w.heap.size]? = some (.cells (ncell (dg n)) 48 (0, 0)) ∧ wr.heap[w.heap.size + 1]? = some (.cells (bcells n (2 * j) 32) 5 (0, 0)) ∧ Below w.heap.size w wr) (fun i _ => (16 - intOf i).toNat)
  case atStart => exact ⟨0, by omega, rfl, G0.out, G1.out, B0.out⟩
  case round =>
    clear G0 G1 B0
    obtain ⟨j, hj, rfl, ha, hr, hbel⟩ := hrel
    by_cases hjl : j < 16
    · have hjI : (j : Int) < 16 := by omega
      obtain ⟨p, hp⟩ : ∃ p, p = 2 * j := ⟨_, rfl⟩
      obtain ⟨q, hq⟩ : ∃ q, q = p + 1 := ⟨_, rfl⟩
      have hw0 : IntKind.i64.wrap (2 * (j : Int)) = (p : Int) := by rw [IntKind.wrap_i64]; omega
      have hm0 : 2 * (j : Int) = (p : Int) := by omega
      have hw1 : (p : Int) + 1 = (q : Int) := by omega
      have hp1 : (p : Int) < 32 := by omega
      have hq1 : (q : Int) < 32 := by omega
      have hbd := dg_dig n j hjl
      have hlo := dg_low n j
      have hhi := dg_high n j
      rw [← hp] at hlo hhi hr
      rw [← hq] at hhi
      have c0 : wr.cell? ⟨w.heap.size, j, none⟩ = some (.int .i64 (dg n j : Nat)) := by rw [cell_of_row _ _ _ _ _ _ ha]; exact ncell_get _ _ hjl
      have z0 : wr.frozen? ⟨w.heap.size + 1, p, none⟩ = false := frozen_of_row _ _ _ _ _ hr
      have z1 : wr.frozen? ⟨w.heap.size + 1, q, none⟩ = false := frozen_of_row _ _ _ _ _ hr
      have d0 : wr.cell? ⟨w.heap.size + 1, p, none⟩ = some (.int .u8 ((if p < p then n / 256 ^ p % 256 else 0 : Nat) : Int)) := by
        rw [cell_of_row _ _ _ _ _ _ hr]; exact bcells_get _ _ _ _ (by omega)
      have d1 : wr.cell? ⟨w.heap.size + 1, q, none⟩ = some (.int .u8 ((if q < p then n / 256 ^ q % 256 else 0 : Nat) : Int)) := by
        rw [cell_of_row _ _ _ _ _ _ hr]; exact bcells_get _ _ _ _ (by omega)
      obtain ⟨lo, hl⟩ : ∃ lo, lo = dg n j % 256 := ⟨_, rfl⟩
      obtain ⟨hi, hh⟩ : ∃ hi, hi = dg n j / 256 := ⟨_, rfl⟩
      rw [← hl] at hlo; rw [← hh] at hhi
      generalize dg n j = x at c0 hl hh hbd
      have e0 : (x : Int) % 256 = (lo : Int) := by omega
      have e1 : (x : Int) / 256 = (hi : Int) := by omega
      have v0 : IntKind.u8.wrap (lo : Int) = (lo : Int) := by rw [IntKind.wrap_u8]; omega
      have v1 : IntKind.u8.wrap (hi : Int) = (hi : Int) := by rw [IntKind.wrap_u8]; omega
      have bl : (lo : Int) < 256 := by omega
      have bh : (hi : Int) < 256 := by omega
      have HA := Box.mk ha; have HR := Box.mk hr; have HBEL := Box.mk hbel; have HLO := Box.mk hlo; have HHI := Box.mk hhi; have HP := Box.mk hp; have HQ := Box.mk hq
      clear ha hr hbel hlo hhi hp hq hl hh
      go_wp2
      refine ⟨⟨j + 1, by omega, by go_num, ?_, ?_, (HBEL.out.setCell (by simp) _).setCell (by simp) _⟩, by simp [intOf]; omega⟩
      · rw [heap_setCell_other _ _ _ _ (by simp), heap_setCell_other _ _ _ _ (by simp)]; exact HA.out
      · rw [heap_setCell_same _ _ _ _ _ _ (heap_setCell_same _ _ _ _ _ _ HR.out), HLO.out, HHI.out, bcells_step, show 2 * (j + 1) = q + 1 by have := HP.out; have := HQ.out; omega]
        have := HQ.out
        subst this
        rw [bcells_step]
    · obtain rfl : j = 16 := by omega
      rw [bcells_all] at hr
      have hcv := run_bytes_of_row Try.prog wr (w.heap.size + 1) 32 _ _ 31 9 5 32 (leList_length _ _) Try.underlying31 Try.underlying5 Try.underlying9 hr
      clear ha hr
      have HB := Box.mk hbel; clear hbel
      go_wp2
      go_ret
      exact ⟨rfl, HB.out⟩
end Go.Proofs.Ytpgichfagodkpaa.Fe
