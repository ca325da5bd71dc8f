/- The document's numbers: mod. -/
import Derived.Test.YtpgichfagodkpaaFieldP
namespace Go.Proofs.Ytpgichfagodkpaa.Fe
set_option linter.unusedVariables false
open Go Go.RowKit

/-- The digits that lie in a block. -/
def cn (w : World) (b : Nat) : Nat → Nat := fun j => match w.cell? ⟨b, j, none⟩ with | some (.int _ n) => n.toNat | _ => 0
theorem cn_row {w : World} {b : Nat} {g : Nat → Nat} (h : w.heap[b]? = some (.cells (ncell g) 48 (0, 0))) : nv (cn w b) = nv g := by
  apply nv_same
  intro j hj
  unfold cn
  rw [cell_of_row _ _ _ _ _ _ h, ncell_get _ _ hj]; rfl
set_option maxRecDepth 100000 in
set_option maxHeartbeats 2000000 in
theorem mod_any (f : Nat → Nat) (hf : ∀ j, j < 16 → f j < 1125899906842624) (w : World) :
    Calls Try.prog 71 #[.agg (ncell f)] w fun e w' => ∃ h, e = .returned (.agg (ncell h)) ∧ Dig h ∧ nv h = nv f % fp ∧ Below w.heap.size w w' := by
  have hz := zeroN
  obtain ⟨W0, hW0⟩ : ∃ W, W = (w.alloc (.cells (ncell f) 48)).alloc (.cells (ncell f0) 48) := ⟨_, rfl⟩
  have g0 : W0.heap[w.heap.size]? = some (.cells (ncell f) 48 (0, 0)) := by rw [hW0, heap_alloc_old _ _ (by simp)]; exact heap_alloc_new _ _
  have g1 : W0.heap[w.heap.size + 1]? = some (.cells (ncell f0) 48 (0, 0)) := by
    have := heap_alloc_new (w.alloc (.cells (ncell f) 48)) (.cells (ncell f0) 48)
    rw [World.size_alloc] at this
    rw [hW0]; exact this
  have b0 : Below w.heap.size w W0 := by rw [hW0]; go_grown
  have G0 := Box.mk g0; have G1 := Box.mk g1; have B0 := Box.mk b0; have HF := Box.mk hf
  clear g0 g1 b0 hf
  go_enter Try.func71, Try.ntmps71
  go_wp2_with fail
  rw [← hW0]
  clear hW0 hz
  go_loopw [3, 4] (fun ov _ wr => ∃ (g : Nat → Nat) (o : Nat), ov = .int .i64 o ∧ wr.heap[w.heap.size]? = some (.cells (ncell g) 48 (0, 0)) ∧ wr.heap[w.heap.size + 1]? = some (.cells (ncell f0) 48 (0, 0)) ∧ (∀ j, j < 16 → g j < 1125899906842624) ∧ nv g % fp = nv f % fp ∧ (o = 0 → Dig g) ∧ Below w.heap.size w wr) (fun ov _ wr => 2 * nv (cn wr w.heap.size) + if intOf ov = 0 then 0 else 1)
  case atStart => exact ⟨f, 1, rfl, G0.out, G1.out, HF.out, rfl, fun h => by omega, B0.out⟩
  case round =>
    clear G0 G1 B0
    obtain ⟨g, o, rfl, ha, hr, hgb, hv, hd, hb⟩ := hrel
    have HA := Box.mk ha; have HR := Box.mk hr; have HGB := Box.mk hgb; have HV := Box.mk hv; have HB := Box.mk hb; have HD := Box.mk hd
    clear ha hr hgb hv hb hd
    by_cases ho : 0 < o
    · have hoI : (0 : Int) < (o : Int) := by omega
      go_wp2_with fail
      obtain ⟨wo, rfl⟩ : ∃ wo : World, wo = wr := ⟨_, rfl⟩
      go_loopw [3, 4] (fun ov i wr => ∃ (k u : Nat) (h : Nat → Nat), k ≤ 16 ∧ i = .int .i64 k ∧ ov = .int .i64 u ∧ u < 68719476736 ∧ Mds g k h u ∧ wr.heap[w.heap.size]? = some (.cells (ncell h) 48 (0, 0)) ∧ wr.heap[w.heap.size + 1]? = some (.cells (ncell f0) 48 (0, 0)) ∧ Below w.heap.size w wr) (fun _ i _ => (16 - intOf i).toNat)
      case atStart => exact ⟨0, 0, g, by omega, rfl, rfl, by omega, Mds.start g, HA.out, HR.out, HB.out⟩
      case round =>
        obtain ⟨k, u, h, hk, rfl, rfl, hu, hm, ha, hr, hbel⟩ := hrel
        by_cases hkl : k < 16
        · have hkI : (k : Int) < 16 := by omega
          have hgk := HGB.out k hkl
          have hup := hm.up k (Nat.le_refl _)
          have hst := hm.step
          have c0 : wr.cell? ⟨w.heap.size, k, none⟩ = some (.int .i64 (h k : Nat)) := by rw [cell_of_row _ _ _ _ _ _ ha]; exact ncell_get _ _ hkl
          have z0 : wr.frozen? ⟨w.heap.size, k, none⟩ = false := frozen_of_row _ _ _ _ _ ha
          rw [hup] at c0
          have HSET := Box.mk (ncell_set h k hkl)
          obtain ⟨x, hx⟩ : ∃ x, x = g k + u := ⟨_, rfl⟩
          rw [← hx] at hst
          obtain ⟨d, hd⟩ : ∃ d, d = x / 65536 := ⟨_, rfl⟩
          obtain ⟨r, hr2⟩ : ∃ r, r = x % 65536 := ⟨_, rfl⟩
          rw [← hd, ← hr2] at hst
          have hxI : ((g k : Nat) : Int) + (u : Int) = (x : Int) := by omega
          have hdI : (x : Int) / 65536 = (d : Int) := by omega
          have hrI : (x : Int) % 65536 = (r : Int) := by omega
          have hxb : (x : Int) ≤ 1125968626319360 := by omega
          have hdb : d < 68719476736 := by omega
          have HST := Box.mk hst; have HAA := Box.mk ha; have HRR := Box.mk hr; have HBE := Box.mk hbel; have HDB := Box.mk hdb
          clear hst ha hr hbel hm hup hx hd hr2 hdb
          go_wp2
          refine ⟨⟨k + 1, d, upd h k r, by omega, by go_num, rfl, HDB.out, HST.out, ?_, ?_, (HBE.out.setCell (Nat.le_refl _) _).setCell (Nat.le_refl _) _⟩, by simp [intOf]; omega⟩
          · rw [heap_setCell_same _ _ _ _ _ _ (heap_setCell_same _ _ _ _ _ _ HAA.out), HSET.out x _ rfl, ncell_set _ k hkl r _ rfl, upd_upd]
          · rw [heap_setCell_other _ _ _ _ (by simp), heap_setCell_other _ _ _ _ (by simp)]; exact HRR.out
        · obtain rfl : k = 16 := by omega
          obtain ⟨hv2, he2, hd2⟩ := hm.done
          have hlow := hm.low
          have c0 : wr.cell? ⟨w.heap.size, 0, none⟩ = some (.int .i64 (h 0 : Nat)) := by rw [cell_of_row _ _ _ _ _ _ ha]; exact ncell_get _ _ (by omega)
          have z0 : wr.frozen? ⟨w.heap.size, 0, none⟩ = false := frozen_of_row _ _ _ _ _ ha
          have hl0 := hlow 0 (by omega)
          have HSET := Box.mk (ncell_set h 0 (by omega))
          obtain ⟨x, hx⟩ : ∃ x, x = h 0 + 38 * u := ⟨_, rfl⟩
          rw [← hx] at hv2 he2 hd2
          obtain ⟨y, hy⟩ : ∃ y, y = 38 * u := ⟨_, rfl⟩
          have hyI : 38 * (u : Int) = (y : Int) := by omega
          have hxI : ((h 0 : Nat) : Int) + (y : Int) = (x : Int) := by omega
          have hbd : ∀ j, j < 16 → upd h 0 x j < 1125899906842624 := fun j hj => by
            by_cases e : j = 0
            · subst e; rw [upd_same]; omega
            · rw [upd_other _ _ _ _ e]; have := hlow j hj; omega
          have hyb : (y : Int) ≤ 2611340115968 := by omega
          generalize h 0 = y0 at c0 hxI hx hl0
          have hy0 : (y0 : Int) < 65536 := by omega
          obtain ⟨W5, hW5⟩ : ∃ W, W = wr.setCell ⟨w.heap.size, 0, none⟩ (.int .i64 (x : Int)) := ⟨_, rfl⟩
          have e0 : W5.heap[w.heap.size]? = some (.cells (ncell (upd h 0 x)) 48 (0, 0)) := by rw [hW5, heap_setCell_same _ _ _ _ _ _ ha, HSET.out x _ rfl]
          have e1 : W5.heap[w.heap.size + 1]? = some (.cells (ncell f0) 48 (0, 0)) := by rw [hW5, heap_setCell_other _ _ _ _ (by simp)]; exact hr
          have e2 : Below w.heap.size w W5 := by rw [hW5]; exact hbel.setCell (Nat.le_refl _) _
          have hmeas : 2 * nv (cn W5 w.heap.size) + (if intOf (.int .i64 (u : Int)) = 0 then 0 else 1) < 2 * nv (cn wo w.heap.size) + (if intOf (.int .i64 (o : Int)) = 0 then 0 else 1) := by
            rw [cn_row e0, cn_row HA.out]
            have ho1 : (if intOf (.int .i64 (o : Int)) = 0 then 0 else 1) = 1 := by rw [if_neg]; simp [intOf]; omega
            rw [ho1]
            have hfp := fp_pos
            rcases Nat.eq_zero_or_pos u with hu0 | hu0
            · subst hu0; simp [intOf]; omega
            · have hu1 : (if intOf (.int .i64 (u : Int)) = 0 then 0 else 1) = 1 := by rw [if_neg]; simp [intOf]; omega
              rw [hu1]
              have : 0 < 2 * fp * u := Nat.mul_pos (by omega) hu0
              omega
          have E0 := Box.mk e0; have E1 := Box.mk e1; have E2 := Box.mk e2; have HME := Box.mk hmeas; have HV2 := Box.mk (hv2.trans HV.out); have HD2 := Box.mk hd2; have HBD := Box.mk hbd
          clear e0 e1 e2 hmeas hv2 he2 hd2 hbd hm ha hr hbel hlow hx hy hl0
          go_wp2
          rw [← hW5]
          exact ⟨⟨_, u, rfl, E0.out, E1.out, HBD.out, HV2.out, HD2.out, E2.out⟩, HME.out⟩
    · have hd := HD.out (by omega)
      have HDG := Box.mk hd
      obtain rfl : o = 0 := by omega
      rw [show ((0 : Nat) : Int) = 0 from rfl]
      clear hd ho HD
      go_wp2_with fail
      refine (p_any _).mono ?_
      rintro e w1 ⟨rfl, hb1⟩
      have hz := zeroN
      have e0 := (hb1.block _ (Array.getElem?_eq_some_iff.1 HA.out).1).trans HA.out
      have e1 := (hb1.block _ (Array.getElem?_eq_some_iff.1 HR.out).1).trans HR.out
      have e2 := HB.out.trans (hb1.mono HB.out.size)
      have hst : (w1.alloc (.cells (ncell f0) 48)).heap[w1.heap.size]? = some (.cells (ncell f0) 48 (0, 0)) := heap_alloc_new _ _
      obtain ⟨W3, hW3⟩ : ∃ W, W = w1.alloc (.cells (ncell pF) 48) := ⟨_, rfl⟩
      obtain ⟨b5, hb5⟩ : ∃ b, b = w1.heap.size := ⟨_, rfl⟩
      have l0 := (Array.getElem?_eq_some_iff.1 e0).1
      have l1 := (Array.getElem?_eq_some_iff.1 e1).1
      have q0 : W3.heap[w.heap.size]? = some (.cells (ncell g) 48 (0, 0)) := by rw [hW3, heap_alloc_old _ _ l0]; exact e0
      have q1 : W3.heap[w.heap.size + 1]? = some (.cells (ncell f0) 48 (0, 0)) := by rw [hW3, heap_alloc_old _ _ l1]; exact e1
      have q2 : W3.heap[b5]? = some (.cells (ncell pF) 48 (0, 0)) := by rw [hW3, hb5]; exact heap_alloc_new _ _
      have q3 : Below w.heap.size w W3 := by rw [hW3]; exact e2.alloc e2.size _
      have hge : w.heap.size + 1 < b5 := by omega
      have HST := Box.mk hst; have Q0 := Box.mk q0; have Q1 := Box.mk q1; have Q2 := Box.mk q2; have Q3 := Box.mk q3
      clear hst q0 q1 q2 q3 e0 e1 e2 hb1 l0 l1
      go_upto_region 12 with ((with_reducible refine wpList_storeN rfl (.tmp 5) (.tmp 34) rfl w1.heap.size pF f0 HST.out ?_ ?_ ?_); rfl; rfl)
      rw [World.setRow_alloc_new, ← hW3]
      go_frame
      rw [← hb5]
      clear hW3 hb5 HST hz
      obtain ⟨wo, rfl⟩ : ∃ wo : World, wo = wr := ⟨_, rfl⟩
      have HP := Box.mk (show nv pF = fp from pF_nv)
      go_loopw [35] (fun _ wr => ∃ g : Nat → Nat, wr.heap[w.heap.size]? = some (.cells (ncell g) 48 (0, 0)) ∧ wr.heap[w.heap.size + 1]? = some (.cells (ncell f0) 48 (0, 0)) ∧ wr.heap[b5]? = some (.cells (ncell pF) 48 (0, 0)) ∧ Dig g ∧ nv g % fp = nv f % fp ∧ Below w.heap.size w wr) (fun _ wr => nv (cn wr w.heap.size))
      case atStart => exact ⟨g, Q0.out, Q1.out, Q2.out, HDG.out, HV.out, Q3.out⟩
      case round =>
        clear Q0 Q1 Q2 Q3 HDG HV HA HR HGB HB
        clear g
        obtain ⟨g, ha, hr, hp, hd, hv, hb⟩ := hrel
        have HA := Box.mk ha; have HR := Box.mk hr; have HPP := Box.mk hp; have HD := Box.mk hd; have HV := Box.mk hv; have HB := Box.mk hb
        clear ha hr hp hd hv hb
        go_wp2_with (first
          | ((with_reducible refine wpList_loadN rfl (.tmp 1) rfl w.heap.size g HA.out ?_ ?_); rfl)
          | ((with_reducible refine wpList_loadN rfl (.tmp 5) rfl b5 pF HPP.out ?_ ?_); rfl))
        refine (below_any g pF HD.out pF_dig _).mono ?_
        rintro e w2 ⟨rfl, hb2⟩
        have HA2 := Box.mk ((hb2.block _ (Array.getElem?_eq_some_iff.1 HA.out).1).trans HA.out)
        have HR2 := Box.mk ((hb2.block _ (Array.getElem?_eq_some_iff.1 HR.out).1).trans HR.out)
        have HP2 := Box.mk ((hb2.block _ (Array.getElem?_eq_some_iff.1 HPP.out).1).trans HPP.out)
        have HB2 := Box.mk (HB.out.trans (hb2.mono HB.out.size))
        have hmx : nv (cn w2 w.heap.size) = nv (cn wr w.heap.size) := by rw [cn_row HA2.out, cn_row HA.out]
        have HMX := Box.mk hmx
        clear hb2 hmx
        by_cases hlt : nv g < nv pF
        · have hl : ltN (nv g) (nv pF) = true := by rw [ltN_eq]; simpa using hlt
          have HV2 := Box.mk (show nv g = nv f % fp by rw [← HV.out, Nat.mod_eq_of_lt]; rw [← HP.out]; exact hlt)
          rw [hl]
          clear hl hlt
          go_wp2_with (first
            | ((with_reducible refine wpList_loadN rfl (.tmp 1) rfl w.heap.size g HA2.out ?_ ?_); rfl)
            | ((with_reducible refine wpList_storeN rfl (.tmp 2) (.tmp 42) rfl (w.heap.size + 1) g f0 HR2.out ?_ ?_ ?_); rfl; rfl))
          go_frame
          refine bodyPost_ret (results_cell_row (p := 2) (ty := 48) rfl _ _ (w.heap.size + 1) 48 (ncell g) (0, 0) _ rfl (setRow_heap _ _ _ _ _ _ HR2.out) Try.underlying48 rfl (by kernel_rfl)) rfl ⟨g, rfl, HD.out, HV2.out, ?_⟩
          exact below_setRow HB2.out (by omega) _
        · have hl : ltN (nv g) (nv pF) = false := by rw [ltN_eq]; simpa using hlt
          rw [hl]
          have HLE := Box.mk (show nv pF ≤ nv g by omega)
          clear hl hlt
          go_wp2_with (first
            | ((with_reducible refine wpList_loadN rfl (.tmp 1) rfl w.heap.size g HA2.out ?_ ?_); rfl)
            | ((with_reducible refine wpList_loadN rfl (.tmp 5) rfl b5 pF HP2.out ?_ ?_); rfl))
          refine (less_any g pF HD.out pF_dig HLE.out _).mono ?_
          rintro e w3 ⟨h, rfl, hd3, hv3, hb3⟩
          have HA3 := Box.mk ((hb3.block _ (Array.getElem?_eq_some_iff.1 HA2.out).1).trans HA2.out)
          have HR3 := Box.mk ((hb3.block _ (Array.getElem?_eq_some_iff.1 HR2.out).1).trans HR2.out)
          have HP3 := Box.mk ((hb3.block _ (Array.getElem?_eq_some_iff.1 HP2.out).1).trans HP2.out)
          have HB3 := Box.mk (HB2.out.trans (hb3.mono HB2.out.size))
          rw [HP.out] at hv3
          have HLE2 := Box.mk (show fp ≤ nv g by have := HLE.out; rw [HP.out] at this; exact this)
          have HV3 := Box.mk (show nv h % fp = nv f % fp by
            rw [← HV.out, hv3]
            have := HLE2.out
            rw [show nv g = nv g - fp + fp * 1 from by omega, Nat.add_mul_mod_self_left, show nv g - fp + fp * 1 - fp = nv g - fp from by omega])
          have HD3 := Box.mk hd3
          have HV4 := Box.mk hv3
          clear hd3 hv3 hb3
          go_wp2_with ((with_reducible refine wpList_storeN rfl (.tmp 1) (.tmp 41) rfl w.heap.size h g HA3.out ?_ ?_ ?_); rfl; rfl)
          go_frame
          go_roundw
          case rel => exact ⟨h, setRow_heap _ _ _ _ _ _ HA3.out, by rw [setRow_other _ _ _ _ (by omega)]; exact HR3.out, by rw [setRow_other _ _ _ _ (by omega)]; exact HP3.out, HD3.out, HV3.out, below_setRow HB3.out (Nat.le_refl _) _⟩
          case measure =>
            rw [cn_row (setRow_heap _ _ _ _ _ _ HA3.out), cn_row HA.out, HV4.out]
            have := fp_pos; have := HLE2.out; omega
end Go.Proofs.Ytpgichfagodkpaa.Fe
