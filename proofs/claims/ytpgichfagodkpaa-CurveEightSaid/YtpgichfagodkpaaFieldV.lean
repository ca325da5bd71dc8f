/- The document's numbers: Times. -/
import Derived.Test.YtpgichfagodkpaaFieldU
namespace Go.Proofs.Ytpgichfagodkpaa.Fe
set_option linter.unusedVariables false
open Go Go.RowKit

/-- i rows of the product are in, and k digits of the next. -/
structure Tms (f g : Nat → Nat) (i k : Nat) (y : Nat → Nat) : Prop where
  val : ∃ c, nv y + fp * c = pn f i * nv g + f i * (dw i * pn g k)
  bd : ∀ j, j < 16 → y j ≤ (16 * i + k) * 163208757248
theorem Tms.start (f g : Nat → Nat) : Tms f g 0 0 f0 := ⟨⟨0, by
  have : nv f0 = 0 := by unfold nv; simp [pn, f0]
  rw [this]; simp [pn]⟩, fun j hj => by simp [f0]⟩
theorem nv_add (y : Nat → Nat) (m x : Nat) (h : m < 16) : nv (upd y m (y m + x)) = nv y + dw m * x := by
  have := nv_upd y m (y m + x) h
  rw [Nat.mul_add] at this; omega
theorem dw_add (i k : Nat) : dw (i + k) = dw i * dw k := by unfold dw; rw [Nat.mul_add, Nat.pow_add]
theorem tms_bd {f g y : Nat → Nat} {i k : Nat} (h : ∀ j, j < 16 → y j ≤ (16 * i + k) * 163208757248) (m x : Nat) (hx : x ≤ 163208757248) : ∀ j, j < 16 → upd y m (y m + x) j ≤ (16 * i + (k + 1)) * 163208757248 := by
  intro j hj
  have h1 := h j hj
  rw [show 16 * i + (k + 1) = 16 * i + k + 1 from rfl, Nat.add_mul, Nat.one_mul]
  generalize (16 * i + k) * 163208757248 = B at h1 ⊢
  simp only [upd]
  split
  · rename_i e
    rw [← e]
    exact Nat.add_le_add h1 hx
  · exact Nat.le_trans h1 (Nat.le_add_right _ _)
theorem Tms.low {f g y : Nat → Nat} {i k : Nat} (h : Tms f g i k y) (hf : f i < 65536) (hg : g k < 65536) (hik : i + k < 16) (x : Nat) (hx : x = f i * g k) : Tms f g i (k + 1) (upd y (i + k) (y (i + k) + x)) := by
  have hb : f i * g k ≤ 65535 * 65535 := Nat.mul_le_mul (by omega) (by omega)
  refine ⟨?_, tms_bd (f := f) (g := g) h.bd _ _ (by omega)⟩
  obtain ⟨c, hc⟩ := h.val
  refine ⟨c, ?_⟩
  have e1 : pn g (k + 1) = pn g k + dw k * g k := rfl
  rw [nv_add _ _ _ hik, e1, dw_add]
  have e : f i * (dw i * (pn g k + dw k * g k)) = f i * (dw i * pn g k) + dw i * dw k * (f i * g k) := by
    rw [Nat.mul_add, Nat.mul_add]; congr 1; rw [← Nat.mul_assoc (dw i), Nat.mul_left_comm]
  rw [e, hx]; omega
theorem Tms.high {f g y : Nat → Nat} {i k : Nat} (h : Tms f g i k y) (hf : f i < 65536) (hg : g k < 65536) (m : Nat) (hm : m < 16) (hik : i + k = m + 16) (x : Nat) (hx : x = 38 * f i * g k) : Tms f g i (k + 1) (upd y m (y m + x)) := by
  have hb : f i * g k ≤ 65535 * 65535 := Nat.mul_le_mul (by omega) (by omega)
  have hx' : x = 38 * (f i * g k) := by rw [hx, Nat.mul_assoc]
  refine ⟨?_, tms_bd (f := f) (g := g) h.bd _ _ (by omega)⟩
  obtain ⟨c, hc⟩ := h.val
  refine ⟨c + 2 * (dw m * (f i * g k)), ?_⟩
  have e1 : pn g (k + 1) = pn g k + dw k * g k := rfl
  rw [nv_add _ _ _ hm, e1]
  have e : f i * (dw i * (pn g k + dw k * g k)) = f i * (dw i * pn g k) + dw i * dw k * (f i * g k) := by
    rw [Nat.mul_add, Nat.mul_add]; congr 1; rw [← Nat.mul_assoc (dw i), Nat.mul_left_comm]
  rw [e, ← dw_add, hik, dw_add, dw16, hx']
  generalize f i * g k = p
  generalize dw m = d
  have e0 : d * (2 * fp + 38) * p = 2 * (fp * (d * p)) + 38 * (d * p) := by
    rw [Nat.mul_add, Nat.add_mul]
    congr 1
    · rw [Nat.mul_left_comm d 2, Nat.mul_assoc 2, Nat.mul_comm d fp, Nat.mul_assoc]
    · rw [Nat.mul_comm d 38, Nat.mul_assoc]
  have e2 : fp * (c + 2 * (d * p)) = fp * c + 2 * (fp * (d * p)) := by rw [Nat.mul_add, Nat.mul_left_comm fp 2]
  have e3 : d * (38 * p) = 38 * (d * p) := Nat.mul_left_comm _ _ _
  rw [e0, e2, e3]; omega
theorem Tms.row {f g y : Nat → Nat} {i : Nat} (h : Tms f g i 16 y) : Tms f g (i + 1) 0 y := by
  obtain ⟨c, hc⟩ := h.val
  refine ⟨⟨c, ?_⟩, fun j hj => by have := h.bd j hj; omega⟩
  have e1 : pn f (i + 1) = pn f i + dw i * f i := rfl
  have e2 : pn g 0 = 0 := rfl
  have e3 : pn g 16 = nv g := rfl
  rw [hc, e1, e2, e3, Nat.mul_zero, Nat.mul_zero, Nat.add_zero, Nat.add_mul, ← Nat.mul_assoc (f i), Nat.mul_comm (f i)]
theorem Tms.done {f g y : Nat → Nat} (h : Tms f g 16 0 y) : nv y % fp = nv f * nv g % fp ∧ ∀ j, j < 16 → y j < 1125899906842624 := by
  obtain ⟨c, hc⟩ := h.val
  refine ⟨?_, fun j hj => by have := h.bd j hj; omega⟩
  have e2 : pn g 0 = 0 := rfl
  have e3 : pn f 16 = nv f := rfl
  rw [e2, e3, Nat.mul_zero, Nat.mul_zero, Nat.add_zero] at hc
  rw [← hc, Nat.add_mul_mod_self_left]

set_option maxRecDepth 100000 in
set_option maxHeartbeats 4000000 in
theorem times_any (f g : Nat → Nat) (hf : Dig f) (hg : Dig g) (w : World) :
    Calls Try.prog 42 #[.agg (ncell f), .agg (ncell g)] w fun e w' => e = .returned (.agg (ncell (dg (nv f * nv g % fp)))) ∧ Gr w w' := by
  have hz := zeroN
  obtain ⟨W0, hW0⟩ : ∃ W, W = ((((w.alloc (.cells (ncell f) 48)).alloc (.cells (ncell g) 48)).alloc (.cells (ncell f0) 48)).alloc (.cells (ncell f0) 48)).setRow (w.heap.size + 3) (ncell f0) := ⟨_, rfl⟩
  have h3 : ((((w.alloc (.cells (ncell f) 48)).alloc (.cells (ncell g) 48)).alloc (.cells (ncell f0) 48)).alloc (.cells (ncell f0) 48)).heap[w.heap.size + 3]? = some (.cells (ncell f0) 48 (0, 0)) := by
    have := heap_alloc_new (((w.alloc (.cells (ncell f) 48)).alloc (.cells (ncell g) 48)).alloc (.cells (ncell f0) 48)) (.cells (ncell f0) 48)
    rwa [World.size_alloc, World.size_alloc, World.size_alloc] at this
  have g3 : W0.heap[w.heap.size + 3]? = some (.cells (ncell f0) 48 (0, 0)) := by rw [hW0]; exact setRow_heap _ _ _ _ _ _ h3
  have g0 : W0.heap[w.heap.size]? = some (.cells (ncell f) 48 (0, 0)) := by
    rw [hW0, setRow_other _ _ _ _ (by omega), heap_alloc_old _ _ (by simp; omega), heap_alloc_old _ _ (by simp; omega), heap_alloc_old _ _ (by simp)]; exact heap_alloc_new _ _
  have g1 : W0.heap[w.heap.size + 1]? = some (.cells (ncell g) 48 (0, 0)) := by
    have := heap_alloc_new (w.alloc (.cells (ncell f) 48)) (.cells (ncell g) 48)
    rw [World.size_alloc] at this
    rw [hW0, setRow_other _ _ _ _ (by omega), heap_alloc_old _ _ (by simp), heap_alloc_old _ _ (by simp)]; exact this
  have g2 : W0.heap[w.heap.size + 2]? = some (.cells (ncell f0) 48 (0, 0)) := by
    have := heap_alloc_new ((w.alloc (.cells (ncell f) 48)).alloc (.cells (ncell g) 48)) (.cells (ncell f0) 48)
    rw [World.size_alloc, World.size_alloc] at this
    rw [hW0, setRow_other _ _ _ _ (by omega), heap_alloc_old _ _ (by simp)]; exact this
  have b0 : Below w.heap.size w W0 := by rw [hW0]; exact below_setRow (by go_grown) (by omega) _
  have H3 := Box.mk h3; have G0 := Box.mk g0; have G1 := Box.mk g1; have G2 := Box.mk g2; have G3 := Box.mk g3; have B0 := Box.mk b0; have HF := Box.mk hf; have HG := Box.mk hg
  clear h3 g0 g1 g2 g3 b0 hf hg
  go_enter Try.func42, Try.ntmps42
  go_upto_region 2 with ((with_reducible refine wpList_storeN rfl (.tmp 5) (.tmp 8) rfl (w.heap.size + 3) f0 f0 H3.out ?_ ?_ ?_); rfl; rfl)
  go_frame
  rw [← hW0]
  clear hW0 hz H3
  go_wp2_with fail
  go_loopw [6, 7] (fun i _ wr => ∃ (n : Nat) (y : Nat → Nat), n ≤ 16 ∧ i = .int .i64 n ∧ Tms f g n 0 y ∧ wr.heap[w.heap.size]? = some (.cells (ncell f) 48 (0, 0)) ∧ wr.heap[w.heap.size + 1]? = some (.cells (ncell g) 48 (0, 0)) ∧ wr.heap[w.heap.size + 2]? = some (.cells (ncell f0) 48 (0, 0)) ∧ wr.heap[w.heap.size + 3]? = some (.cells (ncell y) 48 (0, 0)) ∧ Below w.heap.size w wr) (fun i _ _ => (16 - intOf i).toNat)
  case atStart => exact ⟨0, f0, by omega, rfl, Tms.start f g, G0.out, G1.out, G2.out, G3.out, B0.out⟩
  case round =>
    clear G0 G1 G2 G3 B0
    obtain ⟨n, y, hn, rfl, ht, ha, hb, hr, hy, hbel⟩ := hrel
    have HT := Box.mk ht; have HA := Box.mk ha; have HB := Box.mk hb; have HR := Box.mk hr; have HY := Box.mk hy; have HBEL := Box.mk hbel
    clear ht ha hb hr hy hbel
    by_cases hnl : n < 16
    · have hnI : (n : Int) < 16 := by omega
      go_wp2_with fail
      obtain ⟨wo, rfl⟩ : ∃ wo : World, wo = wr := ⟨_, rfl⟩
      go_loopw [7] (fun k wr => ∃ (m : Nat) (y : Nat → Nat), m ≤ 16 ∧ k = .int .i64 m ∧ Tms f g n m y ∧ wr.heap[w.heap.size]? = some (.cells (ncell f) 48 (0, 0)) ∧ wr.heap[w.heap.size + 1]? = some (.cells (ncell g) 48 (0, 0)) ∧ wr.heap[w.heap.size + 2]? = some (.cells (ncell f0) 48 (0, 0)) ∧ wr.heap[w.heap.size + 3]? = some (.cells (ncell y) 48 (0, 0)) ∧ Below w.heap.size w wr) (fun k _ => (16 - intOf k).toNat)
      case atStart => exact ⟨0, y, by omega, rfl, HT.out, HA.out, HB.out, HR.out, HY.out, HBEL.out⟩
      case round =>
        clear HA HB HR HY HBEL HT
        obtain ⟨m, y, hm, rfl, ht, ha, hb, hr, hy, hbel⟩ := hrel
        by_cases hml : m < 16
        · have hmI : (m : Int) < 16 := by omega
          have bf := HF.out n hnl
          have bg := HG.out m hml
          have ca : wr.cell? ⟨w.heap.size, n, none⟩ = some (.int .i64 (f n : Nat)) := by rw [cell_of_row _ _ _ _ _ _ ha]; exact ncell_get _ _ hnl
          have cb : wr.cell? ⟨w.heap.size + 1, m, none⟩ = some (.int .i64 (g m : Nat)) := by rw [cell_of_row _ _ _ _ _ _ hb]; exact ncell_get _ _ hml
          have hbp : f n * g m ≤ 65535 * 65535 := Nat.mul_le_mul (by omega) (by omega)
          by_cases hlow : n + m < 16
          · have hlowI : (n : Int) + (m : Int) < 16 := by omega
            have hby := ht.bd (n + m) hlow
            have hstep := fun x hx => ht.low bf bg hlow x hx
            have HSET := Box.mk (ncell_set y (n + m) hlow)
            obtain ⟨s, hs⟩ : ∃ s, s = n + m := ⟨_, rfl⟩
            rw [← hs] at hby hstep HSET hlow
            have hsI : (n : Int) + (m : Int) = (s : Int) := by omega
            have hsl : (s : Int) < 16 := by omega
            have cy : wr.cell? ⟨w.heap.size + 3, s, none⟩ = some (.int .i64 (y s : Nat)) := by rw [cell_of_row _ _ _ _ _ _ hy]; exact ncell_get _ _ hlow
            have zy : wr.frozen? ⟨w.heap.size + 3, s, none⟩ = false := frozen_of_row _ _ _ _ _ hy
            obtain ⟨P, hP⟩ : ∃ P, P = f n * g m := ⟨_, rfl⟩
            have hPI : ((f n : Nat) : Int) * ((g m : Nat) : Int) = (P : Int) := by rw [hP, Int.natCast_mul]
            have hst := hstep P hP
            rw [← hP] at hbp
            obtain ⟨Z, hZ⟩ : ∃ Z, Z = y s + P := ⟨_, rfl⟩
            rw [← hZ] at hst
            generalize f n = x0 at ca hPI
            generalize g m = x1 at cb hPI
            generalize y s = y0 at cy hby hZ
            have hw1 : IntKind.i64.wrap ((x0 : Int) * (x1 : Int)) = (P : Int) := by rw [hPI, IntKind.wrap_i64]; omega
            have hw2 : IntKind.i64.wrap ((y0 : Int) + (P : Int)) = (Z : Int) := by rw [IntKind.wrap_i64]; omega
            have hw3 : IntKind.i64.wrap ((n : Int) + (m : Int)) = (s : Int) := by rw [hsI, IntKind.wrap_i64]; omega
            have HA := Box.mk ha; have HB := Box.mk hb; have HR := Box.mk hr; have HY := Box.mk hy; have HBEL := Box.mk hbel; have HST := Box.mk hst; have HSI := Box.mk hsI
            clear ha hb hr hy hbel hst hstep ht hs hP hPI hZ hsI bf bg hbp hby hlow
            go_upto_region 9 with (fail)
            go_still_tail 14, (by kernel_rfl)
            go_wp2
            refine ⟨⟨m + 1, _, by omega, by go_num, HST.out, ?_, ?_, ?_, ?_, (HBEL.out.setCell (by simp <;> omega) _).drew⟩, by simp [intOf]; omega⟩
            · rw [heap_drew, heap_setCell_other _ _ _ _ (by simp <;> omega)]; exact HA.out
            · rw [heap_drew, heap_setCell_other _ _ _ _ (by simp <;> omega)]; exact HB.out
            · rw [heap_drew, heap_setCell_other _ _ _ _ (by simp <;> omega)]; exact HR.out
            · rw [heap_drew, heap_setCell_same _ _ _ _ _ _ HY.out, HSET.out Z _ rfl]
          · have hlowI : 16 ≤ (n : Int) + (m : Int) := by omega
            obtain ⟨s, hs⟩ : ∃ s, s = n + m - 16 := ⟨_, rfl⟩
            have hs16 : s < 16 := by omega
            have hby := ht.bd s hs16
            have hstep := fun x hx => ht.high bf bg s hs16 (by omega) x hx
            have HSET := Box.mk (ncell_set y s hs16)
            obtain ⟨r, hr'⟩ : ∃ r, r = n + m := ⟨_, rfl⟩
            have hrI : (n : Int) + (m : Int) = (r : Int) := by omega
            have hsI : (r : Int) - 16 = (s : Int) := by omega
            have hsl : (s : Int) < 16 := by omega
            have hrl : 16 ≤ (r : Int) := by omega
            have hrh : (r : Int) < 32 := by omega
            have cy : wr.cell? ⟨w.heap.size + 3, s, none⟩ = some (.int .i64 (y s : Nat)) := by rw [cell_of_row _ _ _ _ _ _ hy]; exact ncell_get _ _ hs16
            have zy : wr.frozen? ⟨w.heap.size + 3, s, none⟩ = false := frozen_of_row _ _ _ _ _ hy
            obtain ⟨V, hV⟩ : ∃ V, V = 38 * f n := ⟨_, rfl⟩
            obtain ⟨P, hP⟩ : ∃ P, P = V * g m := ⟨_, rfl⟩
            have hVI : 38 * ((f n : Nat) : Int) = (V : Int) := by omega
            have hPI : (V : Int) * ((g m : Nat) : Int) = (P : Int) := by rw [hP, Int.natCast_mul]
            have hst := hstep P (by rw [hP, hV])
            have hbP : P ≤ 163208757248 := by rw [hP, hV, Nat.mul_assoc]; omega
            obtain ⟨Z, hZ⟩ : ∃ Z, Z = y s + P := ⟨_, rfl⟩
            rw [← hZ] at hst
            generalize f n = x0 at ca hVI bf
            generalize g m = x1 at cb hPI
            generalize y s = y0 at cy hby hZ
            have hw0 : IntKind.i64.wrap (38 * (x0 : Int)) = (V : Int) := by rw [hVI, IntKind.wrap_i64]; omega
            have hw1 : IntKind.i64.wrap ((V : Int) * (x1 : Int)) = (P : Int) := by rw [hPI, IntKind.wrap_i64]; omega
            have hw2 : IntKind.i64.wrap ((y0 : Int) + (P : Int)) = (Z : Int) := by rw [IntKind.wrap_i64]; omega
            have hw3 : IntKind.i64.wrap ((n : Int) + (m : Int)) = (r : Int) := by rw [hrI, IntKind.wrap_i64]; omega
            have hw4 : IntKind.i64.wrap ((r : Int) - 16) = (s : Int) := by rw [hsI, IntKind.wrap_i64]; omega
            have HA := Box.mk ha; have HB := Box.mk hb; have HR := Box.mk hr; have HY := Box.mk hy; have HBEL := Box.mk hbel; have HST := Box.mk hst
            clear ha hb hr hy hbel hst hstep ht hs hP hPI hZ hsI bf bg hbp hby hlow hs16 hVI hV hbP hr' hrI
            go_upto_region 10 with (fail)
            go_still_tail 16, (by kernel_rfl)
            go_wp2
            refine ⟨⟨m + 1, _, by omega, by go_num, HST.out, ?_, ?_, ?_, ?_, (HBEL.out.setCell (by simp <;> omega) _).drew⟩, by simp [intOf]; omega⟩
            · rw [heap_drew, heap_setCell_other _ _ _ _ (by simp <;> omega)]; exact HA.out
            · rw [heap_drew, heap_setCell_other _ _ _ _ (by simp <;> omega)]; exact HB.out
            · rw [heap_drew, heap_setCell_other _ _ _ _ (by simp <;> omega)]; exact HR.out
            · rw [heap_drew, heap_setCell_same _ _ _ _ _ _ HY.out, HSET.out Z _ rfl]
        · obtain rfl : m = 16 := by omega
          have HT := Box.mk ht.row; have HA := Box.mk ha; have HB := Box.mk hb; have HR := Box.mk hr; have HY := Box.mk hy; have HBEL := Box.mk hbel
          clear ht ha hb hr hy hbel
          go_wp2_with fail
          exact ⟨⟨n + 1, y, by omega, by go_num, HT.out, HA.out, HB.out, HR.out, HY.out, HBEL.out⟩, by simp [intOf]; omega⟩
    · obtain rfl : n = 16 := by omega
      obtain ⟨hv, hyb⟩ := HT.out.done
      have HV := Box.mk hv; have HYB := Box.mk hyb
      clear hv hyb HA HB HT
      go_wp2_with ((with_reducible refine wpList_loadN rfl (.tmp 5) rfl (w.heap.size + 3) y HY.out ?_ ?_); rfl)
      refine (modD _ y HYB.out).mono ?_
      rintro e w2 ⟨rfl, hb2⟩
      have hr2 := hb2.block HR.out
      have HR2 := Box.mk hr2; have HB2 := Box.mk (HBEL.out.trans (hb2.below.mono HBEL.out.size))
      clear hr2 hb2
      go_wp2_with ((with_reducible refine wpList_storeN rfl (.tmp 4) (.tmp 52) rfl (w.heap.size + 2) (dg (nv y % fp)) f0 HR2.out ?_ ?_ ?_); rfl; rfl)
      go_frame
      refine bodyPost_ret (results_cell_row (p := 4) (ty := 48) rfl _ _ (w.heap.size + 2) 48 (ncell _) (0, 0) _ rfl (setRow_heap _ _ _ _ _ _ HR2.out) Try.underlying48 rfl (by kernel_rfl)) rfl ⟨by rw [HV.out], ?_⟩
      exact below_setRow HB2.out (by omega) _
theorem timesD (w : World) (a b : Nat) (ha : a < dw 16) (hb : b < dw 16) : Calls Try.prog 42 #[.agg (ncell (dg a)), .agg (ncell (dg b))] w fun e w' => e = .returned (.agg (ncell (dg (a * b % fp)))) ∧ Gr w w' :=
  (times_any _ _ (dg_dig a) (dg_dig b) w).mono fun _ _ ⟨he, hb'⟩ => ⟨by rw [he, nv_dg ha, nv_dg hb], hb'⟩
end Go.Proofs.Ytpgichfagodkpaa.Fe
