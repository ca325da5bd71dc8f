/- The document's numbers: mod. The document's numbers: Plus. The document's numbers: Small. The document's numbers as numbers: each function's answer is one value; Small, Minus, Num, Inverse by it. The document's numbers: digits, Bytes. The document's numbers: Times. -/
import Derived.Test.YtafhncpaoolljaaGreatM21
import Derived.Test.YtafhncpaoolljaaGreatM17
import Derived.Deep.Cut
import Derived.Test.YtafhncpaoolljaaGreatM02
import Derived.Test.YtafhncpaoolljaaGreatM13
namespace Go.Proofs.YtafhncpaoolljaaGreat.Fe
set_option maxRecDepth 100000
set_option linter.unusedVariables false
open Go Go.RowKit
def cn (w : World) (b : Nat) : Nat → Nat := fun j => match w.cell? ⟨b, j, none⟩ with | some (.int _ n) => n.toNat | _ => 0
theorem cn_row {w : World} {b : Nat} {g : Nat → Nat} (h : w.heap[b]? = some (.cells (ncell g) 94 (0, 0))) : nv (cn w b) = nv g := by
 apply nv_same
 intro j hj
 unfold cn
 rw [cell_of_row _ _ _ _ _ _ h, ncell_get _ _ hj]; rfl
set_option maxRecDepth 100000 in
set_option maxHeartbeats 2000000 in
theorem mod_any (f : Nat → Nat) (hf : ∀ j, j < 16 → f j < 1125899906842624) (w : World) :
   Calls Tryz.prog 110 #[.agg (ncell f)] w fun e w' => ∃ h, e = .returned (.agg (ncell h)) ∧ Dig h ∧ nv h = nv f % fp ∧ Below w.heap.size w w' := by
 have hz := zeroN
 obtain ⟨W0, hW0⟩ : ∃ W, W = (w.alloc (.cells (ncell f) 94)).alloc (.cells (ncell f0) 94) := ⟨_, rfl⟩
 have g0 : W0.heap[w.heap.size]? = some (.cells (ncell f) 94 (0, 0)) := by rw [hW0, heap_alloc_old _ _ (by simp)]; exact heap_alloc_new _ _
 have g1 : W0.heap[w.heap.size + 1]? = some (.cells (ncell f0) 94 (0, 0)) := by
   have := heap_alloc_new (w.alloc (.cells (ncell f) 94)) (.cells (ncell f0) 94)
   rw [World.size_alloc] at this
   rw [hW0]; exact this
 have b0 : Below w.heap.size w W0 := by rw [hW0]; go_grown
 have G0 := Box.mk g0; have G1 := Box.mk g1; have B0 := Box.mk b0; have HF := Box.mk hf
 clear g0 g1 b0 hf
 go_enter Tryz.func110, Tryz.ntmps110
 go_wp2_with fail
 rw [← hW0]
 clear hW0 hz
 go_loopw [3, 4] (fun ov _ wr => ∃ (g : Nat → Nat) (o : Nat), ov = .int .i64 o ∧ wr.heap[w.heap.size]? = some (.cells (ncell g) 94 (0, 0)) ∧ wr.heap[w.heap.size + 1]? = some (.cells (ncell f0) 94 (0, 0)) ∧ (∀ j, j < 16 → g j < 1125899906842624) ∧ nv g % fp = nv f % fp ∧ (o = 0 → Dig g) ∧ Below w.heap.size w wr) (fun ov _ wr => 2 * nv (cn wr w.heap.size) + if intOf ov = 0 then 0 else 1)
 case atStart => exact ⟨f, 1, rfl, G0.out, G1.out, HF.out, rfl, fun h => by omega, B0.out⟩
 case round =>
   clear G0 G1 B0
   obtain ⟨g, o, rfl, ha, hr, hgb, hv, hd, hb⟩ := hrel
   have HA := Box.mk ha; have HR := Box.mk hr; have HGB := Box.mk hgb; have HV := Box.mk hv; have HB := Box.mk hb; have HD := Box.mk hd
   clear ha hr hgb hv hb hd
   by_cases ho : 0 < o
   · have hoI : (0 : Int) < (o : Int) := by omega
     go_wp2_with fail
     obtain ⟨wo, rfl⟩ : ∃ wo : World, wo = wr := ⟨_, rfl⟩
     go_loopw [3, 4] (fun ov i wr => ∃ (k u : Nat) (h : Nat → Nat), k ≤ 16 ∧ i = .int .i64 k ∧ ov = .int .i64 u ∧ u < 68719476736 ∧ Mds g k h u ∧ wr.heap[w.heap.size]? = some (.cells (ncell h) 94 (0, 0)) ∧ wr.heap[w.heap.size + 1]? = some (.cells (ncell f0) 94 (0, 0)) ∧ Below w.heap.size w wr) (fun _ i _ => (16 - intOf i).toNat)
     case atStart => exact ⟨0, 0, g, by omega, rfl, rfl, by omega, Mds.start g, HA.out, HR.out, HB.out⟩
     case round =>
       obtain ⟨k, u, h, hk, rfl, rfl, hu, hm, ha, hr, hbel⟩ := hrel
       by_cases hkl : k < 16
       · have hkI : (k : Int) < 16 := by omega
         have hgk := HGB.out k hkl
         have hup := hm.up k (Nat.le_refl _)
         have hst := hm.step
         have c0 : wr.cell? ⟨w.heap.size, k, none⟩ = some (.int .i64 (h k : Nat)) := by rw [cell_of_row _ _ _ _ _ _ ha]; exact ncell_get _ _ hkl
         have z0 : wr.frozen? ⟨w.heap.size, k, none⟩ = false := frozen_of_row _ _ _ _ _ ha
         rw [hup] at c0
         have HSET := Box.mk (ncell_set h k hkl)
         obtain ⟨x, hx⟩ : ∃ x, x = g k + u := ⟨_, rfl⟩
         rw [← hx] at hst
         obtain ⟨d, hd⟩ : ∃ d, d = x / 65536 := ⟨_, rfl⟩
         obtain ⟨r, hr2⟩ : ∃ r, r = x % 65536 := ⟨_, rfl⟩
         rw [← hd, ← hr2] at hst
         have hxI : ((g k : Nat) : Int) + (u : Int) = (x : Int) := by omega
         have hdI : (x : Int) / 65536 = (d : Int) := by omega
         have hrI : (x : Int) % 65536 = (r : Int) := by omega
         have hxb : (x : Int) ≤ 1125968626319360 := by omega
         have hdb : d < 68719476736 := by omega
         have HST := Box.mk hst; have HAA := Box.mk ha; have HRR := Box.mk hr; have HBE := Box.mk hbel; have HDB := Box.mk hdb
         clear hst ha hr hbel hm hup hx hd hr2 hdb
         go_wp2
         refine ⟨⟨k + 1, d, upd h k r, by omega, by go_num, rfl, HDB.out, HST.out, ?_, ?_, (HBE.out.setCell (Nat.le_refl _) _).setCell (Nat.le_refl _) _⟩, by simp [intOf]; omega⟩
         · rw [heap_setCell_same _ _ _ _ _ _ (heap_setCell_same _ _ _ _ _ _ HAA.out), HSET.out x _ rfl, ncell_set _ k hkl r _ rfl, upd_upd]
         · rw [heap_setCell_other _ _ _ _ (by simp), heap_setCell_other _ _ _ _ (by simp)]; exact HRR.out
       · obtain rfl : k = 16 := by omega
         obtain ⟨hv2, he2, hd2⟩ := hm.done
         have hlow := hm.low
         have c0 : wr.cell? ⟨w.heap.size, 0, none⟩ = some (.int .i64 (h 0 : Nat)) := by rw [cell_of_row _ _ _ _ _ _ ha]; exact ncell_get _ _ (by omega)
         have z0 : wr.frozen? ⟨w.heap.size, 0, none⟩ = false := frozen_of_row _ _ _ _ _ ha
         have hl0 := hlow 0 (by omega)
         have HSET := Box.mk (ncell_set h 0 (by omega))
         obtain ⟨x, hx⟩ : ∃ x, x = h 0 + 38 * u := ⟨_, rfl⟩
         rw [← hx] at hv2 he2 hd2
         obtain ⟨y, hy⟩ : ∃ y, y = 38 * u := ⟨_, rfl⟩
         have hyI : 38 * (u : Int) = (y : Int) := by omega
         have hxI : ((h 0 : Nat) : Int) + (y : Int) = (x : Int) := by omega
         have hbd : ∀ j, j < 16 → upd h 0 x j < 1125899906842624 := fun j hj => by
           by_cases e : j = 0
           · subst e; rw [upd_same]; omega
           · rw [upd_other _ _ _ _ e]; have := hlow j hj; omega
         have hyb : (y : Int) ≤ 2611340115968 := by omega
         generalize h 0 = y0 at c0 hxI hx hl0
         have hy0 : (y0 : Int) < 65536 := by omega
         obtain ⟨W5, hW5⟩ : ∃ W, W = wr.setCell ⟨w.heap.size, 0, none⟩ (.int .i64 (x : Int)) := ⟨_, rfl⟩
         have e0 : W5.heap[w.heap.size]? = some (.cells (ncell (upd h 0 x)) 94 (0, 0)) := by rw [hW5, heap_setCell_same _ _ _ _ _ _ ha, HSET.out x _ rfl]
         have e1 : W5.heap[w.heap.size + 1]? = some (.cells (ncell f0) 94 (0, 0)) := by rw [hW5, heap_setCell_other _ _ _ _ (by simp)]; exact hr
         have e2 : Below w.heap.size w W5 := by rw [hW5]; exact hbel.setCell (Nat.le_refl _) _
         have hmeas : 2 * nv (cn W5 w.heap.size) + (if intOf (.int .i64 (u : Int)) = 0 then 0 else 1) < 2 * nv (cn wo w.heap.size) + (if intOf (.int .i64 (o : Int)) = 0 then 0 else 1) := by
           rw [cn_row e0, cn_row HA.out]
           have ho1 : (if intOf (.int .i64 (o : Int)) = 0 then 0 else 1) = 1 := by rw [if_neg]; simp [intOf]; omega
           rw [ho1]
           have hfp := fp_pos
           rcases Nat.eq_zero_or_pos u with hu0 | hu0
           · subst hu0; simp [intOf]; omega
           · have hu1 : (if intOf (.int .i64 (u : Int)) = 0 then 0 else 1) = 1 := by rw [if_neg]; simp [intOf]; omega
             rw [hu1]
             have : 0 < 2 * fp * u := Nat.mul_pos (by omega) hu0
             omega
         have E0 := Box.mk e0; have E1 := Box.mk e1; have E2 := Box.mk e2; have HME := Box.mk hmeas; have HV2 := Box.mk (hv2.trans HV.out); have HD2 := Box.mk hd2; have HBD := Box.mk hbd
         clear e0 e1 e2 hmeas hv2 he2 hd2 hbd hm ha hr hbel hlow hx hy hl0
         go_wp2
         rw [← hW5]
         exact ⟨⟨_, u, rfl, E0.out, E1.out, HBD.out, HV2.out, HD2.out, E2.out⟩, HME.out⟩
   · have hd := HD.out (by omega)
     have HDG := Box.mk hd
     obtain rfl : o = 0 := by omega
     rw [show ((0 : Nat) : Int) = 0 from rfl]
     clear hd ho HD
     go_wp2_with fail
     refine (p_any _).mono ?_
     rintro e w1 ⟨rfl, hb1⟩
     have hz := zeroN
     have e0 := (hb1.block _ (Array.getElem?_eq_some_iff.1 HA.out).1).trans HA.out
     have e1 := (hb1.block _ (Array.getElem?_eq_some_iff.1 HR.out).1).trans HR.out
     have e2 := HB.out.trans (hb1.mono HB.out.size)
     have hst : (w1.alloc (.cells (ncell f0) 94)).heap[w1.heap.size]? = some (.cells (ncell f0) 94 (0, 0)) := heap_alloc_new _ _
     obtain ⟨W3, hW3⟩ : ∃ W, W = w1.alloc (.cells (ncell pF) 94) := ⟨_, rfl⟩
     obtain ⟨b5, hb5⟩ : ∃ b, b = w1.heap.size := ⟨_, rfl⟩
     have l0 := (Array.getElem?_eq_some_iff.1 e0).1
     have l1 := (Array.getElem?_eq_some_iff.1 e1).1
     have q0 : W3.heap[w.heap.size]? = some (.cells (ncell g) 94 (0, 0)) := by rw [hW3, heap_alloc_old _ _ l0]; exact e0
     have q1 : W3.heap[w.heap.size + 1]? = some (.cells (ncell f0) 94 (0, 0)) := by rw [hW3, heap_alloc_old _ _ l1]; exact e1
     have q2 : W3.heap[b5]? = some (.cells (ncell pF) 94 (0, 0)) := by rw [hW3, hb5]; exact heap_alloc_new _ _
     have q3 : Below w.heap.size w W3 := by rw [hW3]; exact e2.alloc e2.size _
     have hge : w.heap.size + 1 < b5 := by omega
     have HST := Box.mk hst; have Q0 := Box.mk q0; have Q1 := Box.mk q1; have Q2 := Box.mk q2; have Q3 := Box.mk q3
     clear hst q0 q1 q2 q3 e0 e1 e2 hb1 l0 l1
     go_upto_region 12 with ((with_reducible refine wpList_storeN rfl (.tmp 5) (.tmp 34) rfl w1.heap.size pF f0 HST.out ?_ ?_ ?_); rfl; rfl)
     rw [World.setRow_alloc_new, ← hW3]
     go_frame
     rw [← hb5]
     clear hW3 hb5 HST hz
     obtain ⟨wo, rfl⟩ : ∃ wo : World, wo = wr := ⟨_, rfl⟩
     have HP := Box.mk (show nv pF = fp from pF_nv)
     go_loopw [35] (fun _ wr => ∃ g : Nat → Nat, wr.heap[w.heap.size]? = some (.cells (ncell g) 94 (0, 0)) ∧ wr.heap[w.heap.size + 1]? = some (.cells (ncell f0) 94 (0, 0)) ∧ wr.heap[b5]? = some (.cells (ncell pF) 94 (0, 0)) ∧ Dig g ∧ nv g % fp = nv f % fp ∧ Below w.heap.size w wr) (fun _ wr => nv (cn wr w.heap.size))
     case atStart => exact ⟨g, Q0.out, Q1.out, Q2.out, HDG.out, HV.out, Q3.out⟩
     case round =>
       clear Q0 Q1 Q2 Q3 HDG HV HA HR HGB HB
       clear g
       obtain ⟨g, ha, hr, hp, hd, hv, hb⟩ := hrel
       have HA := Box.mk ha; have HR := Box.mk hr; have HPP := Box.mk hp; have HD := Box.mk hd; have HV := Box.mk hv; have HB := Box.mk hb
       clear ha hr hp hd hv hb
       go_wp2_with (first
         | ((with_reducible refine wpList_loadN rfl (.tmp 1) rfl w.heap.size g HA.out ?_ ?_); rfl)
         | ((with_reducible refine wpList_loadN rfl (.tmp 5) rfl b5 pF HPP.out ?_ ?_); rfl))
       refine (below_any g pF HD.out pF_dig _).mono ?_
       rintro e w2 ⟨rfl, hb2⟩
       have HA2 := Box.mk ((hb2.block _ (Array.getElem?_eq_some_iff.1 HA.out).1).trans HA.out)
       have HR2 := Box.mk ((hb2.block _ (Array.getElem?_eq_some_iff.1 HR.out).1).trans HR.out)
       have HP2 := Box.mk ((hb2.block _ (Array.getElem?_eq_some_iff.1 HPP.out).1).trans HPP.out)
       have HB2 := Box.mk (HB.out.trans (hb2.mono HB.out.size))
       have hmx : nv (cn w2 w.heap.size) = nv (cn wr w.heap.size) := by rw [cn_row HA2.out, cn_row HA.out]
       have HMX := Box.mk hmx
       clear hb2 hmx
       by_cases hlt : nv g < nv pF
       · have hl : ltN (nv g) (nv pF) = true := by rw [ltN_eq]; simpa using hlt
         have HV2 := Box.mk (show nv g = nv f % fp by rw [← HV.out, Nat.mod_eq_of_lt]; rw [← HP.out]; exact hlt)
         rw [hl]
         clear hl hlt
         go_wp2_with (first
           | ((with_reducible refine wpList_loadN rfl (.tmp 1) rfl w.heap.size g HA2.out ?_ ?_); rfl)
           | ((with_reducible refine wpList_storeN rfl (.tmp 2) (.tmp 42) rfl (w.heap.size + 1) g f0 HR2.out ?_ ?_ ?_); rfl; rfl))
         go_frame
         refine bodyPost_ret (results_cell_row (p := 2) (ty := 94) rfl _ _ (w.heap.size + 1) 94 (ncell g) (0, 0) _ rfl (setRow_heap _ _ _ _ _ _ HR2.out) Tryz.underlying94 rfl (by kernel_rfl)) rfl ⟨g, rfl, HD.out, HV2.out, ?_⟩
         exact below_setRow HB2.out (by omega) _
       · have hl : ltN (nv g) (nv pF) = false := by rw [ltN_eq]; simpa using hlt
         rw [hl]
         have HLE := Box.mk (show nv pF ≤ nv g by omega)
         clear hl hlt
         go_wp2_with (first
           | ((with_reducible refine wpList_loadN rfl (.tmp 1) rfl w.heap.size g HA2.out ?_ ?_); rfl)
           | ((with_reducible refine wpList_loadN rfl (.tmp 5) rfl b5 pF HP2.out ?_ ?_); rfl))
         refine (less_any g pF HD.out pF_dig HLE.out _).mono ?_
         rintro e w3 ⟨h, rfl, hd3, hv3, hb3⟩
         have HA3 := Box.mk ((hb3.block _ (Array.getElem?_eq_some_iff.1 HA2.out).1).trans HA2.out)
         have HR3 := Box.mk ((hb3.block _ (Array.getElem?_eq_some_iff.1 HR2.out).1).trans HR2.out)
         have HP3 := Box.mk ((hb3.block _ (Array.getElem?_eq_some_iff.1 HP2.out).1).trans HP2.out)
         have HB3 := Box.mk (HB2.out.trans (hb3.mono HB2.out.size))
         rw [HP.out] at hv3
         have HLE2 := Box.mk (show fp ≤ nv g by have := HLE.out; rw [HP.out] at this; exact this)
         have HV3 := Box.mk (show nv h % fp = nv f % fp by
           rw [← HV.out, hv3]
           have := HLE2.out
           rw [show nv g = nv g - fp + fp * 1 from by omega, Nat.add_mul_mod_self_left, show nv g - fp + fp * 1 - fp = nv g - fp from by omega])
         have HD3 := Box.mk hd3
         have HV4 := Box.mk hv3
         clear hd3 hv3 hb3
         go_wp2_with ((with_reducible refine wpList_storeN rfl (.tmp 1) (.tmp 41) rfl w.heap.size h g HA3.out ?_ ?_ ?_); rfl; rfl)
         go_frame
         go_roundw
         case rel => exact ⟨h, setRow_heap _ _ _ _ _ _ HA3.out, by rw [setRow_other _ _ _ _ (by omega)]; exact HR3.out, by rw [setRow_other _ _ _ _ (by omega)]; exact HP3.out, HD3.out, HV3.out, below_setRow HB3.out (Nat.le_refl _) _⟩
         case measure =>
           rw [cn_row (setRow_heap _ _ _ _ _ _ HA3.out), cn_row HA.out, HV4.out]
           have := fp_pos; have := HLE2.out; omega
open Go Go.RowKit
theorem addF_pn (f g : Nat → Nat) : ∀ k m, k ≤ m → pn (addF f g m) k = pn f k + pn g k
 | 0, _, _ => rfl
 | k + 1, m, h => by
   rw [pn, pn, pn, addF_pn f g k m (by omega)]
   have : addF f g m k = f k + g k := by simp only [addF]; rw [if_pos (by omega)]
   rw [this, Nat.mul_add]; omega
theorem addF_nv (f g : Nat → Nat) : nv (addF f g 16) = nv f + nv g := addF_pn f g 16 16 (Nat.le_refl _)
set_option maxRecDepth 100000 in
set_option maxHeartbeats 2000000 in
theorem plus_any (f g : Nat → Nat) (hf : Dig f) (hg : Dig g) (w : World) :
   Calls Tryz.prog 105 #[.agg (ncell f), .agg (ncell g)] w fun e w' => ∃ h, e = .returned (.agg (ncell h)) ∧ Dig h ∧ nv h = (nv f + nv g) % fp ∧ Below w.heap.size w w' := by
 have hz := zeroN
 obtain ⟨W0, hW0⟩ : ∃ W, W = ((w.alloc (.cells (ncell f) 94)).alloc (.cells (ncell g) 94)).alloc (.cells (ncell f0) 94) := ⟨_, rfl⟩
 have g0 : W0.heap[w.heap.size]? = some (.cells (ncell (addF f g 0)) 94 (0, 0)) := by rw [hW0, heap_alloc_old _ _ (by simp; omega), heap_alloc_old _ _ (by simp)]; exact heap_alloc_new _ _
 have g1 : W0.heap[w.heap.size + 1]? = some (.cells (ncell g) 94 (0, 0)) := by
   have := heap_alloc_new (w.alloc (.cells (ncell f) 94)) (.cells (ncell g) 94)
   rw [World.size_alloc] at this
   rw [hW0, heap_alloc_old _ _ (by simp)]; exact this
 have g2 : W0.heap[w.heap.size + 2]? = some (.cells (ncell f0) 94 (0, 0)) := by
   have := heap_alloc_new ((w.alloc (.cells (ncell f) 94)).alloc (.cells (ncell g) 94)) (.cells (ncell f0) 94)
   rw [World.size_alloc, World.size_alloc] at this
   rw [hW0]; exact this
 have b0 : Below w.heap.size w W0 := by rw [hW0]; go_grown
 have G0 := Box.mk g0; have G1 := Box.mk g1; have G2 := Box.mk g2; have B0 := Box.mk b0; have HF := Box.mk hf; have HG := Box.mk hg
 clear g0 g1 g2 b0 hf hg
 go_enter Tryz.func105, Tryz.ntmps105
 go_wp2_with fail
 rw [← hW0]
 clear hW0 hz
 go_loopw [5] (fun i wr => ∃ j : Nat, j ≤ 16 ∧ i = .int .i64 j ∧ wr.heap[w.heap.size]? = some (.cells (ncell (addF f g j)) 94 (0, 0)) ∧ wr.heap[w.heap.size + 1]? = some (.cells (ncell g) 94 (0, 0)) ∧ wr.heap[w.heap.size + 2]? = some (.cells (ncell f0) 94 (0, 0)) ∧ Below w.heap.size w wr) (fun i _ => (16 - intOf i).toNat)
 case atStart => exact ⟨0, by omega, rfl, G0.out, G1.out, G2.out, B0.out⟩
 case round =>
   clear G0 G1 G2 B0
   obtain ⟨j, hj, rfl, ha, hb, hr, hbel⟩ := hrel
   by_cases hjl : j < 16
   · have hjI : (j : Int) < 16 := by omega
     have bf := HF.out j hjl
     have bg := HG.out j hjl
     have c0 : wr.cell? ⟨w.heap.size, j, none⟩ = some (.int .i64 (f j : Nat)) := by rw [cell_of_row _ _ _ _ _ _ ha, ncell_get _ _ hjl, addF_at]
     have c1 : wr.cell? ⟨w.heap.size + 1, j, none⟩ = some (.int .i64 (g j : Nat)) := by rw [cell_of_row _ _ _ _ _ _ hb]; exact ncell_get _ _ hjl
     have z0 : wr.frozen? ⟨w.heap.size, j, none⟩ = false := frozen_of_row _ _ _ _ _ ha
     have hst := addF_step f g j
     have HSET := Box.mk (ncell_set (addF f g j) j hjl)
     obtain ⟨x, hx⟩ : ∃ x, x = f j + g j := ⟨_, rfl⟩
     rw [← hx] at hst
     have hxI : ((f j : Nat) : Int) + ((g j : Nat) : Int) = (x : Int) := by omega
     have HST := Box.mk hst
     have hbx : (x : Int) < 131072 := by omega
     generalize f j = y0 at c0 hxI hx
     generalize g j = y1 at c1 hxI hx
     have HA := Box.mk ha; have HB := Box.mk hb; have HR := Box.mk hr; have HBEL := Box.mk hbel
     clear ha hb hr hbel hst hx bf bg
     have hw : IntKind.i64.wrap ((y0 : Int) + (y1 : Int)) = (x : Int) := by rw [IntKind.wrap_i64]; omega
     go_wp2_with fail
     go_region
     go_wp2
     refine ⟨⟨j + 1, by omega, by go_num, ?_, ?_, ?_, (HBEL.out.setCell (Nat.le_refl _) _).drew⟩, by simp [intOf]; omega⟩
     · rw [heap_drew, heap_setCell_same _ _ _ _ _ _ HA.out, HSET.out x _ rfl, HST.out]
     · rw [heap_drew, heap_setCell_other _ _ _ _ (by simp)]; exact HB.out
     · rw [heap_drew, heap_setCell_other _ _ _ _ (by simp)]; exact HR.out
   · obtain rfl : j = 16 := by omega
     have HA := Box.mk ha; have HR := Box.mk hr; have HBEL := Box.mk hbel
     clear ha hb hr hbel
     go_wp2_with ((with_reducible refine wpList_loadN rfl (.tmp 2) rfl w.heap.size (addF f g 16) HA.out ?_ ?_); rfl)
     refine (mod_any (addF f g 16) (fun j hj => by have := HF.out j hj; have := HG.out j hj; simp only [addF]; rw [if_pos hj]; omega) _).mono ?_
     rintro e w2 ⟨h, rfl, hd, hv, hb2⟩
     rw [addF_nv] at hv
     have hr2 : w2.heap[w.heap.size + 2]? = some (.cells (ncell f0) 94 (0, 0)) := (hb2.block _ (Array.getElem?_eq_some_iff.1 HR.out).1).trans HR.out
     have HR2 := Box.mk hr2; have HL := Box.mk hd; have HV := Box.mk hv; have HB2 := Box.mk (HBEL.out.trans (hb2.mono HBEL.out.size))
     clear hr2 hd hv hb2
     go_wp2_with ((with_reducible refine wpList_storeN rfl (.tmp 4) (.tmp 19) rfl (w.heap.size + 2) h f0 HR2.out ?_ ?_ ?_); rfl; rfl)
     go_frame
     refine bodyPost_ret (results_cell_row (p := 4) (ty := 94) rfl _ _ (w.heap.size + 2) 94 (ncell h) (0, 0) _ rfl (setRow_heap _ _ _ _ _ _ HR2.out) Tryz.underlying94 rfl (by kernel_rfl)) rfl ⟨h, rfl, HL.out, HV.out, ?_⟩
     exact below_setRow HB2.out (by omega) _
open Go Go.RowKit
def smN (n : Nat) : Nat → Nat := upd (upd f0 0 (n % 65536)) 1 (n / 65536)
theorem smN_dig (n : Nat) (h : n < 4294967296) : Dig (smN n) := fun j hj => by simp only [smN, upd, f0]; split <;> (try split) <;> omega
theorem smN_nv (n : Nat) : nv (smN n) = n := by
 unfold nv smN
 simp only [pn, upd, f0, dw]
 simp
 omega
set_option maxRecDepth 100000 in
set_option maxHeartbeats 2000000 in
theorem smallN_any (n : Nat) (hn : n < 4294967296) (w : World) : Calls Tryz.prog 77 #[.int .i64 n] w fun e w' => e = .returned (.agg (ncell (smN n))) ∧ Below w.heap.size w w' := by
 have hz := zeroN
 have h0 : ((w.alloc (.cells (ncell f0) 94)).alloc (.cells (ncell f0) 94)).heap[w.heap.size + 1]? = some (.cells (ncell f0) 94 (0, 0)) := by
   have := heap_alloc_new (w.alloc (.cells (ncell f0) 94)) (.cells (ncell f0) 94)
   rwa [World.size_alloc] at this
 have H0 := Box.mk h0
 have hr0 : ((w.alloc (.cells (ncell f0) 94)).alloc (.cells (ncell f0) 94)).heap[w.heap.size]? = some (.cells (ncell f0) 94 (0, 0)) := by
   rw [heap_alloc_old _ _ (by simp)]; exact heap_alloc_new _ _
 have HR0 := Box.mk hr0
 have hb0 : Below w.heap.size w ((w.alloc (.cells (ncell f0) 94)).alloc (.cells (ncell f0) 94)) := by go_grown
 have HB0 := Box.mk hb0
 clear h0 hr0 hb0
 obtain ⟨W1, hW1⟩ : ∃ W, W = ((w.alloc (.cells (ncell f0) 94)).alloc (.cells (ncell f0) 94)).setRow (w.heap.size + 1) (ncell f0) := ⟨_, rfl⟩
 have q0 : W1.heap[w.heap.size + 1]? = some (.cells (ncell f0) 94 (0, 0)) := by rw [hW1]; exact setRow_heap _ _ _ _ _ _ H0.out
 have q1 : W1.heap[w.heap.size]? = some (.cells (ncell f0) 94 (0, 0)) := by rw [hW1, setRow_other _ _ _ _ (by omega)]; exact HR0.out
 have q2 : Below w.heap.size w W1 := by rw [hW1]; exact below_setRow HB0.out (by omega) _
 go_enter Tryz.func77, Tryz.ntmps77
 go_upto_region 2 with ((with_reducible refine wpList_storeN rfl (.tmp 3) (.tmp 4) rfl (w.heap.size + 1) f0 f0 H0.out ?_ ?_ ?_); rfl; rfl)
 go_frame
 rw [← hW1]
 clear hW1 H0 HR0 HB0 hz
 obtain ⟨q, hq⟩ : ∃ q, q = n / 65536 := ⟨_, rfl⟩
 obtain ⟨r, hr⟩ : ∃ r, r = n % 65536 := ⟨_, rfl⟩
 have hdiv : (n : Int) / 65536 = (q : Int) := by omega
 have hmod : (n : Int) % 65536 = (r : Int) := by omega
 have HQ := Box.mk hq; have HR := Box.mk hr
 clear hq hr
 have c0 : W1.cell? ⟨w.heap.size + 1, 0, none⟩ = some (.int .i64 (f0 0 : Nat)) := by rw [cell_of_row _ _ _ _ _ _ q0]; exact ncell_get _ _ (by omega)
 have c1 : W1.cell? ⟨w.heap.size + 1, 1, none⟩ = some (.int .i64 (f0 1 : Nat)) := by rw [cell_of_row _ _ _ _ _ _ q0]; exact ncell_get _ _ (by omega)
 have z0 : W1.frozen? ⟨w.heap.size + 1, 0, none⟩ = false := frozen_of_row _ _ _ _ _ q0
 have z1 : W1.frozen? ⟨w.heap.size + 1, 1, none⟩ = false := frozen_of_row _ _ _ _ _ q0
 obtain ⟨W2, hW2⟩ : ∃ W, W = (W1.setCell ⟨w.heap.size + 1, 0, none⟩ (.int .i64 (r : Int))).setCell ⟨w.heap.size + 1, 1, none⟩ (.int .i64 (q : Int)) := ⟨_, rfl⟩
 have e0 : W2.heap[w.heap.size + 1]? = some (.cells (ncell (smN n)) 94 (0, 0)) := by
   rw [hW2, heap_setCell_same _ _ _ _ _ _ (heap_setCell_same _ _ _ _ _ _ q0), ncell_set _ 0 (by omega) r _ rfl, ncell_set _ 1 (by omega) q _ rfl, HR.out, HQ.out]; rfl
 have e1 : W2.heap[w.heap.size]? = some (.cells (ncell f0) 94 (0, 0)) := by
   rw [hW2, heap_setCell_other _ _ _ _ (by simp), heap_setCell_other _ _ _ _ (by simp)]; exact q1
 have e2 : Below w.heap.size w W2 := by rw [hW2]; exact (q2.setCell (by simp) _).setCell (by simp) _
 have E0 := Box.mk e0; have E1 := Box.mk e1; have E2 := Box.mk e2
 clear q0 q1 q2 e0 e1 e2
 go_upto_region 4 with (fail)
 rw [← hW2]
 clear hW2 c0 c1 z0 z1
 go_wp2_with (first
   | ((with_reducible refine wpList_loadN rfl (.tmp 3) rfl (w.heap.size + 1) (smN n) E0.out ?_ ?_); rfl)
   | ((with_reducible refine wpList_storeN rfl (.tmp 2) (.tmp 11) rfl w.heap.size (smN n) f0 E1.out ?_ ?_ ?_); rfl; rfl))
 go_frame
 refine bodyPost_ret (results_cell_row (p := 2) (ty := 94) rfl _ _ w.heap.size 94 (ncell (smN n)) (0, 0) _ rfl (setRow_heap _ _ _ _ _ _ E1.out) Tryz.underlying94 rfl (by kernel_rfl)) rfl ⟨rfl, ?_⟩
 exact below_setRow E2.out (Nat.le_refl _) _
open Go Go.RowKit
@[irreducible] def dg (n : Nat) : Nat → Nat := fun j => n / 2 ^ (16 * j) % 65536
theorem dg_eq (n j : Nat) : dg n j = n / 2 ^ (16 * j) % 65536 := by unfold dg; first | done | rfl
theorem dg_dig (n : Nat) : Dig (dg n) := fun j _ => by rw [dg_eq]; exact Nat.mod_lt _ (by omega)
theorem pn_dg (n : Nat) : ∀ k, pn (dg n) k = n % dw k
 | 0 => by simp [pn, dw, Nat.mod_one]
 | k + 1 => by
   rw [pn, pn_dg n k, dw_succ, dg_eq, show (2 : Nat) ^ (16 * k) = dw k from rfl, Nat.mod_mul]
theorem nv_dg {n : Nat} (h : n < dw 16) : nv (dg n) = n := by unfold nv; rw [pn_dg, Nat.mod_eq_of_lt h]
theorem dg_pn {f : Nat → Nat} : ∀ k, (∀ j, j < k → f j < 65536) → ∀ j, j < k → pn f k / dw j % 65536 = f j
 | 0, _, j, hj => by omega
 | k + 1, h, j, hj => by
   rw [pn]
   have hl := pn_lt k (fun j hj => h j (by omega))
   by_cases hjk : j = k
   · subst hjk
     rw [Nat.add_mul_div_left _ _ (dw_pos _), Nat.div_eq_of_lt hl, Nat.zero_add]
     exact Nat.mod_eq_of_lt (h j (by omega))
   · have ih := dg_pn k (fun j hj => h j (by omega)) j (by omega)
     obtain ⟨d, hd⟩ : ∃ d, k = j + (1 + d) := ⟨k - j - 1, by omega⟩
     have e : dw k = dw j * (65536 * dw d) := by
       unfold dw; rw [hd, Nat.mul_add, Nat.pow_add, Nat.mul_add, Nat.pow_add]
     rw [e, Nat.mul_assoc, Nat.add_mul_div_left _ _ (dw_pos _), Nat.mul_assoc, Nat.add_mul_mod_self_left]
     exact ih
theorem ncell_congr {f g : Nat → Nat} (h : ∀ j, j < 16 → f j = g j) : ncell f = ncell g := by
 simp only [ncell, h 0 (by omega), h 1 (by omega), h 2 (by omega), h 3 (by omega), h 4 (by omega), h 5 (by omega), h 6 (by omega), h 7 (by omega), h 8 (by omega), h 9 (by omega), h 10 (by omega), h 11 (by omega), h 12 (by omega), h 13 (by omega), h 14 (by omega), h 15 (by omega)]
theorem ncell_dg {f : Nat → Nat} (h : Dig f) : ncell f = ncell (dg (nv f)) := ncell_congr fun j hj => by
 rw [dg_eq, show (2 : Nat) ^ (16 * j) = dw j from rfl]; exact (dg_pn 16 h j hj).symm
theorem ncell_of {f : Nat → Nat} {n : Nat} (h : Dig f) (hv : nv f = n) : ncell f = ncell (dg n) := by rw [ncell_dg h, hv]
theorem fp_dw : fp < dw 16 := by rw [dw16]; omega
theorem mod_dw (n : Nat) : n % fp < dw 16 := Nat.lt_trans (Nat.mod_lt _ fp_pos) fp_dw
section
variable (w : World)
theorem belowD (a b : Nat) (ha : a < dw 16) (hb : b < dw 16) : Calls Tryz.prog 129 #[.agg (ncell (dg a)), .agg (ncell (dg b))] w fun e w' => e = .returned (.bool (ltN a b)) ∧ Gr w w' :=
 (below_any _ _ (dg_dig a) (dg_dig b) w).mono fun _ _ ⟨he, hb'⟩ => ⟨by rw [he, nv_dg ha, nv_dg hb], hb'⟩
theorem lessD (a b : Nat) (ha : a < dw 16) (hle : b ≤ a) : Calls Tryz.prog 112 #[.agg (ncell (dg a)), .agg (ncell (dg b))] w fun e w' => e = .returned (.agg (ncell (dg (a - b)))) ∧ Gr w w' :=
 (less_any _ _ (dg_dig a) (dg_dig b) (by rw [nv_dg ha, nv_dg (by omega)]; exact hle) w).mono fun _ _ ⟨h, he, hd, hv, hb'⟩ => ⟨by rw [he, ncell_of hd (by rw [hv, nv_dg ha, nv_dg (Nat.lt_of_le_of_lt hle ha)])], hb'⟩
theorem pD : Calls Tryz.prog 113 #[] w fun e w' => e = .returned (.agg (ncell (dg fp))) ∧ Gr w w' :=
 (p_any w).mono fun _ _ ⟨he, hb'⟩ => ⟨by rw [he, ncell_of pF_dig pF_nv], hb'⟩
theorem modD (f : Nat → Nat) (hf : ∀ j, j < 16 → f j < 1125899906842624) : Calls Tryz.prog 110 #[.agg (ncell f)] w fun e w' => e = .returned (.agg (ncell (dg (nv f % fp)))) ∧ Gr w w' :=
 (mod_any f hf w).mono fun _ _ ⟨h, he, hd, hv, hb'⟩ => ⟨by rw [he, ncell_of hd hv], hb'⟩
theorem plusD (a b : Nat) (ha : a < dw 16) (hb : b < dw 16) : Calls Tryz.prog 105 #[.agg (ncell (dg a)), .agg (ncell (dg b))] w fun e w' => e = .returned (.agg (ncell (dg ((a + b) % fp)))) ∧ Gr w w' :=
 (plus_any _ _ (dg_dig a) (dg_dig b) w).mono fun _ _ ⟨h, he, hd, hv, hb'⟩ => ⟨by rw [he, ncell_of hd (by rw [hv, nv_dg ha, nv_dg hb])], hb'⟩
theorem smallD (n : Nat) (hn : n < 4294967296) : Calls Tryz.prog 77 #[.int .i64 n] w fun e w' => e = .returned (.agg (ncell (dg n))) ∧ Gr w w' :=
 (smallN_any n hn w).mono fun _ _ ⟨he, hb'⟩ => ⟨by rw [he, ncell_of (smN_dig n hn) (smN_nv n)], hb'⟩
end
section
variable {W : World} {T : (World → Prop) → List Nat → Act → Prop} {L : List (Oper × Kd)} {F : World → Prop} {N : List Nat} {a : Act} {o : Oper}
theorem gm_loadN (x : Operand) (ho : o.op = .load 94 x) (b : Nat) (f : Nat → Nat) (hb : W.heap[b]? = some (.cells (ncell f) 94 (0, 0))) (hx : a.eval x = .pointer (some ⟨b, 0, none⟩))
   (h : wpG Tryz.prog W [] T L F N (a.put o.dst (.agg (ncell f)))) : wpG Tryz.prog W [] T ((o, .flo) :: L) F N a :=
 gm_load x ho b (ncell f) 94 (0, 0) _ hb hx Tryz.underlying94 rfl (by kernel_rfl) h
end
set_option maxRecDepth 100000 in
set_option maxHeartbeats 2000000 in
theorem minusD (a b : Nat) (ha : a < dw 16) (hb : b ≤ fp) (w : World) :
   Calls Tryz.prog 104 #[.agg (ncell (dg a)), .agg (ncell (dg b))] w fun e w' => e = .returned (.agg (ncell (dg ((a + (fp - b)) % fp)))) ∧ Gr w w' := by
 have hz := zeroN
 obtain ⟨W0, hW0⟩ : ∃ W, W = ((w.alloc (.cells (ncell (dg a)) 94)).alloc (.cells (ncell (dg b)) 94)).alloc (.cells (ncell f0) 94) := ⟨_, rfl⟩
 have g0 : W0.heap[w.heap.size]? = some (.cells (ncell (dg a)) 94 (0, 0)) := by rw [hW0, heap_alloc_old _ _ (by simp; omega), heap_alloc_old _ _ (by simp)]; exact heap_alloc_new _ _
 have g1 : W0.heap[w.heap.size + 1]? = some (.cells (ncell (dg b)) 94 (0, 0)) := by
   have := heap_alloc_new (w.alloc (.cells (ncell (dg a)) 94)) (.cells (ncell (dg b)) 94)
   rw [World.size_alloc] at this
   rw [hW0, heap_alloc_old _ _ (by simp)]; exact this
 have g2 : W0.heap[w.heap.size + 2]? = some (.cells (ncell f0) 94 (0, 0)) := by
   have := heap_alloc_new ((w.alloc (.cells (ncell (dg a)) 94)).alloc (.cells (ncell (dg b)) 94)) (.cells (ncell f0) 94)
   rw [World.size_alloc, World.size_alloc] at this
   rw [hW0]; exact this
 have b0 : Below w.heap.size w W0 := by rw [hW0]; go_grown
 have G0 := Box.mk g0; have G1 := Box.mk g1; have G2 := Box.mk g2; have B0 := Box.mk b0; have HA := Box.mk ha; have HB := Box.mk hb
 clear g0 g1 g2 b0 ha hb
 go_enter Tryz.func104, Tryz.ntmps104
 go_upto_region 1 with (fail)
 rw [← hW0]
 clear hW0 hz
 refine wp_region_mix 5 [.flo, .cha, .flo, .cha, .cha] (by kernel_rfl) (by kernel_rfl) rfl ?_
 simp only [List.take, List.zip, List.zipWith]
 refine gm_loadN (.tmp 2) rfl w.heap.size (dg a) G0.out rfl ?_
 refine gm_call [] (by kernel_rfl) rfl rfl Stb.tt (fun w1 hw1 _ => (pD w1).mono ?_)
 rintro e w2 ⟨rfl, hw2⟩
 refine ⟨_, rfl, hw2, ?_⟩
 refine gm_loadN (.tmp 3) rfl (w.heap.size + 1) (dg b) G1.out rfl ?_
 refine gm_call [.agg (ncell (dg fp)), .agg (ncell (dg b))] (by kernel_rfl) rfl rfl Stb.tt (fun w3 hw3 _ => (lessD w3 fp b fp_dw HB.out).mono ?_)
 rintro e w4 ⟨rfl, hw4⟩
 refine ⟨_, rfl, hw4, ?_⟩
 refine gm_call [.agg (ncell (dg a)), .agg (ncell (dg (fp - b)))] (by kernel_rfl) rfl rfl Stb.tt (fun w5 hw5 _ => (plusD w5 a (fp - b) HA.out (Nat.lt_of_le_of_lt (Nat.sub_le _ _) fp_dw)).mono ?_)
 rintro e w6 ⟨rfl, hw6⟩
 refine ⟨_, rfl, hw6, ?_⟩
 refine gm_nil ?_
 intro w7 hw7 _
 simp only [List.drop]
 have G2 := Box.mk (hw7.block (b := w.heap.size + 2) G2.out)
 go_frame
 go_wp2_with ((with_reducible refine wpList_storeN rfl (.tmp 4) (.tmp 9) rfl (w.heap.size + 2) (dg ((a + (fp - b)) % fp)) f0 G2.out ?_ ?_ ?_); rfl; rfl)
 go_frame
 refine bodyPost_ret (results_cell_row (p := 4) (ty := 94) rfl _ _ (w.heap.size + 2) 94 (ncell _) (0, 0) _ rfl (setRow_heap _ _ _ _ _ _ G2.out) Tryz.underlying94 rfl (by kernel_rfl)) rfl ⟨rfl, ?_⟩
 exact below_setRow (B0.out.drew.trans (hw7.below.mono B0.out.size)) (by omega) _
open Go Go.RowKit
def sd (s : ByteArray) (j : Nat) : Nat := (s.data.toList.getD (2 * j) 0).toNat + 256 * (s.data.toList.getD (2 * j + 1) 0).toNat
theorem sd_lt (s : ByteArray) (j : Nat) : sd s j < 65536 := by
 have := (s.data.toList.getD (2 * j) 0).toNat_lt
 have := (s.data.toList.getD (2 * j + 1) 0).toNat_lt
 unfold sd; omega
theorem sd_at (s : ByteArray) (j : Nat) (h : 2 * j + 1 < s.size) : sd s j = s[2 * j].toNat + 256 * s[2 * j + 1].toNat := by
 have e1 : s.data.toList.getD (2 * j) 0 = s[2 * j] := by
   rw [List.getD_eq_getElem?_getD, List.getElem?_eq_getElem (by simp; omega)]; rfl
 have e2 : s.data.toList.getD (2 * j + 1) 0 = s[2 * j + 1] := by
   rw [List.getD_eq_getElem?_getD, List.getElem?_eq_getElem (by simp; omega)]; rfl
 unfold sd; rw [e1, e2]
theorem pn_sd (s : ByteArray) : ∀ k, 2 * k ≤ s.size → pn (sd s) k = leNat (s.data.toList.take (2 * k))
 | 0, _ => rfl
 | k + 1, h => by
   rw [pn, pn_sd s k (by omega), show 2 * (k + 1) = 2 * k + 1 + 1 by omega, take_snoc s (2 * k + 1) (by omega), leNat_snoc, take_snoc s (2 * k) (by omega), leNat_snoc, sd_at s k (by omega)]
   simp only [List.length_take, List.length_append, List.length_cons, List.length_nil]
   have hl : s.data.toList.length = s.size := by simp
   rw [Nat.min_eq_left (by omega), Nat.pow_succ, show 256 ^ (2 * k) = dw k from by unfold dw; rw [show 16 * k = 8 * (2 * k) by omega, Nat.pow_mul 2 8], Nat.mul_add, Nat.mul_assoc, Nat.add_assoc]
def sdF (s : ByteArray) (k : Nat) : Nat → Nat := fun j => if j < k then sd s j else 0
theorem sdF_zero (s : ByteArray) : sdF s 0 = f0 := by funext j; simp [sdF, f0]
theorem sdF_step (s : ByteArray) (k : Nat) : upd (sdF s k) k (sd s k) = sdF s (k + 1) := by
 funext j; simp only [upd, sdF]; split
 · rename_i h; subst h; rw [if_pos (by omega)]
 · split
   · rw [if_pos (by omega)]
   · rw [if_neg (by omega)]
theorem sdF_all (s : ByteArray) (hs : s.size = 32) : ncell (sdF s 16) = ncell (dg (Go.Proofs.YtafhncpaoolljaaGreat.num s)) := by
 refine ncell_of (fun j hj => by unfold sdF; rw [if_pos hj]; exact sd_lt s j) ?_
 have e : nv (sdF s 16) = pn (sd s) 16 := pn_congr 16 fun j hj => by unfold sdF; rw [if_pos hj]
 rw [e, pn_sd s 16 (by omega)]
 unfold Go.Proofs.YtafhncpaoolljaaGreat.num
 rw [List.take_of_length_le (by simp; omega)]
set_option maxRecDepth 100000 in
set_option maxHeartbeats 2000000 in
theorem digitsD (s : ByteArray) (hs : s.size = 32) (w : World) :
   Calls Tryz.prog 130 #[.string s] w fun e w' => e = .returned (.agg (ncell (dg (Go.Proofs.YtafhncpaoolljaaGreat.num s)))) ∧ Gr w w' := by
 have hz := zeroN
 obtain ⟨W0, hW0⟩ : ∃ W, W = ((w.alloc (.cells (ncell f0) 94)).alloc (.cells (ncell f0) 94)).setRow (w.heap.size + 1) (ncell f0) := ⟨_, rfl⟩
 have h0 : ((w.alloc (.cells (ncell f0) 94)).alloc (.cells (ncell f0) 94)).heap[w.heap.size + 1]? = some (.cells (ncell f0) 94 (0, 0)) := by
   have := heap_alloc_new (w.alloc (.cells (ncell f0) 94)) (.cells (ncell f0) 94)
   rwa [World.size_alloc] at this
 have g1 : W0.heap[w.heap.size + 1]? = some (.cells (ncell (sdF s 0)) 94 (0, 0)) := by rw [hW0, sdF_zero]; exact setRow_heap _ _ _ _ _ _ h0
 have g0 : W0.heap[w.heap.size]? = some (.cells (ncell f0) 94 (0, 0)) := by
   rw [hW0, setRow_other _ _ _ _ (by omega), heap_alloc_old _ _ (by simp)]; exact heap_alloc_new _ _
 have b0 : Below w.heap.size w W0 := by rw [hW0]; exact below_setRow (by go_grown) (by omega) _
 have H0 := Box.mk h0; have G0 := Box.mk g0; have G1 := Box.mk g1; have B0 := Box.mk b0; have HS := Box.mk hs
 clear h0 g0 g1 b0 hs
 go_enter Tryz.func130, Tryz.ntmps130
 go_upto_region 2 with ((with_reducible refine wpList_storeN rfl (.tmp 3) (.tmp 5) rfl (w.heap.size + 1) f0 f0 H0.out ?_ ?_ ?_); rfl; rfl)
 go_frame
 rw [← hW0]
 clear hW0 hz H0
 go_wp2_with fail
 go_loopw [4] (fun i wr => ∃ j : Nat, j ≤ 16 ∧ i = .int .i64 j ∧ wr.heap[w.heap.size]? = some (.cells (ncell f0) 94 (0, 0)) ∧ wr.heap[w.heap.size + 1]? = some (.cells (ncell (sdF s j)) 94 (0, 0)) ∧ Below w.heap.size w wr) (fun i _ => (16 - intOf i).toNat)
 case atStart => exact ⟨0, by omega, rfl, G0.out, G1.out, B0.out⟩
 case round =>
   clear G0 G1 B0
   obtain ⟨j, hj, rfl, hr, ha, hbel⟩ := hrel
   by_cases hjl : j < 16
   · have hjI : (j : Int) < 16 := by omega
     have z0 : wr.frozen? ⟨w.heap.size + 1, j, none⟩ = false := frozen_of_row _ _ _ _ _ ha
     have c0 : wr.cell? ⟨w.heap.size + 1, j, none⟩ = some (.int .i64 (sdF s j j : Nat)) := by rw [cell_of_row _ _ _ _ _ _ ha]; exact ncell_get _ _ hjl
     have hsz := HS.out
     have hi0 : 2 * j < s.size := by omega
     have hi1 : 2 * j + 1 < s.size := by omega
     have hsd := sd_at s j hi1
     obtain ⟨p, hp⟩ : ∃ p, p = 2 * j := ⟨_, rfl⟩
     obtain ⟨q, hq⟩ : ∃ q, q = p + 1 := ⟨_, rfl⟩
     have hw0 : IntKind.i64.wrap (2 * (j : Int)) = (p : Int) := by rw [IntKind.wrap_i64]; omega
     have hw1 : IntKind.i64.wrap ((p : Int) + 1) = (q : Int) := by rw [IntKind.wrap_i64]; omega
     have hps : (p : Int) < (s.size : Int) := by omega
     have hqs : (q : Int) < (s.size : Int) := by omega
     have hp1 : p < s.size := by omega
     have hq1 : q < s.size := by omega
     have hx : s[p].toNat + 256 * s[q].toNat = sd s j := by subst hq; subst hp; exact hsd.symm
     have b1 := s[p].toNat_lt
     have b2 := s[q].toNat_lt
     have HX := Box.mk hx
     have HSET := Box.mk (ncell_set (sdF s j) j hjl)
     have HST := Box.mk (sdF_step s j)
     have HA := Box.mk ha; have HR := Box.mk hr; have HBEL := Box.mk hbel
     clear ha hr hbel hsd hsz hp hq hx hi0 hi1
     go_wp2_with fail
     go_still_tail 15, (by kernel_rfl)
     go_wp2
     refine ⟨⟨j + 1, by omega, by go_num, ?_, ?_, (HBEL.out.setCell (by simp) _).drew⟩, by simp [intOf]; omega⟩
     · rw [heap_drew, heap_setCell_other _ _ _ _ (by simp)]; exact HR.out
     · rw [heap_drew, heap_setCell_same _ _ _ _ _ _ HA.out, HSET.out (sd s j) _ (by rw [← HX.out]; omega), HST.out]
   · obtain rfl : j = 16 := by omega
     rw [sdF_all s HS.out] at ha
     have HA := Box.mk ha; have HR := Box.mk hr; have HBEL := Box.mk hbel
     clear ha hr hbel
     go_wp2_with (first
       | ((with_reducible refine wpList_loadN rfl (.tmp 3) rfl (w.heap.size + 1) (dg (Go.Proofs.YtafhncpaoolljaaGreat.num s)) HA.out ?_ ?_); rfl)
       | ((with_reducible refine wpList_storeN rfl (.tmp 2) (.tmp 25) rfl w.heap.size (dg (Go.Proofs.YtafhncpaoolljaaGreat.num s)) f0 HR.out ?_ ?_ ?_); rfl; rfl))
     go_frame
     refine bodyPost_ret (results_cell_row (p := 2) (ty := 94) rfl _ _ w.heap.size 94 (ncell _) (0, 0) _ rfl (setRow_heap _ _ _ _ _ _ HR.out) Tryz.underlying94 rfl (by kernel_rfl)) rfl ⟨rfl, ?_⟩
     exact below_setRow HBEL.out (Nat.le_refl _) _
theorem bcells_get (n k c i : Nat) (h : i < c) : (bcells n k c)[i]? = some (.int .u8 ((if i < k then n / 256 ^ i % 256 else 0 : Nat) : Int)) := by simp [bcells, h]
theorem dg_low (n j : Nat) : dg n j % 256 = n / 256 ^ (2 * j) % 256 := by
 rw [dg_eq, show (2 : Nat) ^ (16 * j) = 256 ^ (2 * j) from by rw [show 16 * j = 8 * (2 * j) by omega, Nat.pow_mul]]; omega
theorem dg_high (n j : Nat) : dg n j / 256 = n / 256 ^ (2 * j + 1) % 256 := by
 rw [dg_eq, Nat.pow_succ, ← Nat.div_div_eq_div_mul, show (2 : Nat) ^ (16 * j) = 256 ^ (2 * j) from by rw [show 16 * j = 8 * (2 * j) by omega, Nat.pow_mul]]; omega
set_option maxRecDepth 100000 in
set_option maxHeartbeats 2000000 in
theorem bytesD (n : Nat) (w : World) :
   Calls Tryz.prog 75 #[.agg (ncell (dg n))] w fun e w' => e = .returned (.string (sbytes n)) ∧ Gr w w' := by
 have hmk : ∀ w, (Instr.makeSlice 29 (.int .i64 32) (.int .i64 32)).run Tryz.prog w = .ok (.slice (some ⟨w.heap.size, 0, none⟩) 32 32) (w.alloc (.cells (bcells 0 0 32) 5)) := fun _ => by kernel_rfl
 obtain ⟨W0, hW0⟩ : ∃ W, W = (w.alloc (.cells (ncell (dg n)) 94)).alloc (.cells (bcells 0 0 32) 5) := ⟨_, rfl⟩
 have g0 : W0.heap[w.heap.size]? = some (.cells (ncell (dg n)) 94 (0, 0)) := by rw [hW0, heap_alloc_old _ _ (by simp)]; exact heap_alloc_new _ _
 have g1 : W0.heap[w.heap.size + 1]? = some (.cells (bcells n (2 * 0) 32) 5 (0, 0)) := by
   have := heap_alloc_new (w.alloc (.cells (ncell (dg n)) 94)) (.cells (bcells 0 0 32) 5)
   rw [World.size_alloc] at this
   rw [hW0, this]; simp [bcells]
 have b0 : Below w.heap.size w W0 := by rw [hW0]; go_grown
 have G0 := Box.mk g0; have G1 := Box.mk g1; have B0 := Box.mk b0
 clear g0 g1 b0
 go_enter Tryz.func75, Tryz.ntmps75
 go_wp2_with fail
 rw [← hW0]
 clear hW0 hmk
 go_loopw [4] (fun i wr => ∃ j : Nat, j ≤ 16 ∧ i = .int .i64 j ∧ wr.heap[w.heap.size]? = some (.cells (ncell (dg n)) 94 (0, 0)) ∧ wr.heap[w.heap.size + 1]? = some (.cells (bcells n (2 * j) 32) 5 (0, 0)) ∧ Below w.heap.size w wr) (fun i _ => (16 - intOf i).toNat)
 case atStart => exact ⟨0, by omega, rfl, G0.out, G1.out, B0.out⟩
 case round =>
   clear G0 G1 B0
   obtain ⟨j, hj, rfl, ha, hr, hbel⟩ := hrel
   by_cases hjl : j < 16
   · have hjI : (j : Int) < 16 := by omega
     obtain ⟨p, hp⟩ : ∃ p, p = 2 * j := ⟨_, rfl⟩
     obtain ⟨q, hq⟩ : ∃ q, q = p + 1 := ⟨_, rfl⟩
     have hw0 : IntKind.i64.wrap (2 * (j : Int)) = (p : Int) := by rw [IntKind.wrap_i64]; omega
     have hm0 : 2 * (j : Int) = (p : Int) := by omega
     have hw1 : (p : Int) + 1 = (q : Int) := by omega
     have hp1 : (p : Int) < 32 := by omega
     have hq1 : (q : Int) < 32 := by omega
     have hbd := dg_dig n j hjl
     have hlo := dg_low n j
     have hhi := dg_high n j
     rw [← hp] at hlo hhi hr
     rw [← hq] at hhi
     have c0 : wr.cell? ⟨w.heap.size, j, none⟩ = some (.int .i64 (dg n j : Nat)) := by rw [cell_of_row _ _ _ _ _ _ ha]; exact ncell_get _ _ hjl
     have z0 : wr.frozen? ⟨w.heap.size + 1, p, none⟩ = false := frozen_of_row _ _ _ _ _ hr
     have z1 : wr.frozen? ⟨w.heap.size + 1, q, none⟩ = false := frozen_of_row _ _ _ _ _ hr
     have d0 : wr.cell? ⟨w.heap.size + 1, p, none⟩ = some (.int .u8 ((if p < p then n / 256 ^ p % 256 else 0 : Nat) : Int)) := by
       rw [cell_of_row _ _ _ _ _ _ hr]; exact bcells_get _ _ _ _ (by omega)
     have d1 : wr.cell? ⟨w.heap.size + 1, q, none⟩ = some (.int .u8 ((if q < p then n / 256 ^ q % 256 else 0 : Nat) : Int)) := by
       rw [cell_of_row _ _ _ _ _ _ hr]; exact bcells_get _ _ _ _ (by omega)
     obtain ⟨lo, hl⟩ : ∃ lo, lo = dg n j % 256 := ⟨_, rfl⟩
     obtain ⟨hi, hh⟩ : ∃ hi, hi = dg n j / 256 := ⟨_, rfl⟩
     rw [← hl] at hlo; rw [← hh] at hhi
     generalize dg n j = x at c0 hl hh hbd
     have e0 : (x : Int) % 256 = (lo : Int) := by omega
     have e1 : (x : Int) / 256 = (hi : Int) := by omega
     have v0 : IntKind.u8.wrap (lo : Int) = (lo : Int) := by rw [IntKind.wrap_u8]; omega
     have v1 : IntKind.u8.wrap (hi : Int) = (hi : Int) := by rw [IntKind.wrap_u8]; omega
     have bl : (lo : Int) < 256 := by omega
     have bh : (hi : Int) < 256 := by omega
     have HA := Box.mk ha; have HR := Box.mk hr; have HBEL := Box.mk hbel; have HLO := Box.mk hlo; have HHI := Box.mk hhi; have HP := Box.mk hp; have HQ := Box.mk hq
     clear ha hr hbel hlo hhi hp hq hl hh
     go_wp2
     refine ⟨⟨j + 1, by omega, by go_num, ?_, ?_, (HBEL.out.setCell (by simp) _).setCell (by simp) _⟩, by simp [intOf]; omega⟩
     · rw [heap_setCell_other _ _ _ _ (by simp), heap_setCell_other _ _ _ _ (by simp)]; exact HA.out
     · rw [heap_setCell_same _ _ _ _ _ _ (heap_setCell_same _ _ _ _ _ _ HR.out), HLO.out, HHI.out, bcells_step, show 2 * (j + 1) = q + 1 by have := HP.out; have := HQ.out; omega]
       have := HQ.out
       subst this
       rw [bcells_step]
   · obtain rfl : j = 16 := by omega
     rw [bcells_all] at hr
     have hcv := run_bytes_of_row Tryz.prog wr (w.heap.size + 1) 32 _ _ 29 9 5 32 (leList_length _ _) Tryz.underlying29 Tryz.underlying5 Tryz.underlying9 hr
     clear ha hr
     have HB := Box.mk hbel; clear hbel
     go_wp2
     go_ret
     exact ⟨rfl, HB.out⟩
open Go Go.RowKit
structure Tms (f g : Nat → Nat) (i k : Nat) (y : Nat → Nat) : Prop where
 val : ∃ c, nv y + fp * c = pn f i * nv g + f i * (dw i * pn g k)
 bd : ∀ j, j < 16 → y j ≤ (16 * i + k) * 163208757248
theorem Tms.start (f g : Nat → Nat) : Tms f g 0 0 f0 := ⟨⟨0, by
 have : nv f0 = 0 := by unfold nv; simp [pn, f0]
 rw [this]; simp [pn]⟩, fun j hj => by simp [f0]⟩
theorem nv_add (y : Nat → Nat) (m x : Nat) (h : m < 16) : nv (upd y m (y m + x)) = nv y + dw m * x := by
 have := nv_upd y m (y m + x) h
 rw [Nat.mul_add] at this; omega
theorem dw_add (i k : Nat) : dw (i + k) = dw i * dw k := by unfold dw; rw [Nat.mul_add, Nat.pow_add]
theorem tms_bd {f g y : Nat → Nat} {i k : Nat} (h : ∀ j, j < 16 → y j ≤ (16 * i + k) * 163208757248) (m x : Nat) (hx : x ≤ 163208757248) : ∀ j, j < 16 → upd y m (y m + x) j ≤ (16 * i + (k + 1)) * 163208757248 := by
 intro j hj
 have h1 := h j hj
 rw [show 16 * i + (k + 1) = 16 * i + k + 1 from rfl, Nat.add_mul, Nat.one_mul]
 generalize (16 * i + k) * 163208757248 = B at h1 ⊢
 simp only [upd]
 split
 · rename_i e
   rw [← e]
   exact Nat.add_le_add h1 hx
 · exact Nat.le_trans h1 (Nat.le_add_right _ _)
theorem Tms.low {f g y : Nat → Nat} {i k : Nat} (h : Tms f g i k y) (hf : f i < 65536) (hg : g k < 65536) (hik : i + k < 16) (x : Nat) (hx : x = f i * g k) : Tms f g i (k + 1) (upd y (i + k) (y (i + k) + x)) := by
 have hb : f i * g k ≤ 65535 * 65535 := Nat.mul_le_mul (by omega) (by omega)
 refine ⟨?_, tms_bd (f := f) (g := g) h.bd _ _ (by omega)⟩
 obtain ⟨c, hc⟩ := h.val
 refine ⟨c, ?_⟩
 have e1 : pn g (k + 1) = pn g k + dw k * g k := rfl
 rw [nv_add _ _ _ hik, e1, dw_add]
 have e : f i * (dw i * (pn g k + dw k * g k)) = f i * (dw i * pn g k) + dw i * dw k * (f i * g k) := by
   rw [Nat.mul_add, Nat.mul_add]; congr 1; rw [← Nat.mul_assoc (dw i), Nat.mul_left_comm]
 rw [e, hx]; omega
theorem Tms.high {f g y : Nat → Nat} {i k : Nat} (h : Tms f g i k y) (hf : f i < 65536) (hg : g k < 65536) (m : Nat) (hm : m < 16) (hik : i + k = m + 16) (x : Nat) (hx : x = 38 * f i * g k) : Tms f g i (k + 1) (upd y m (y m + x)) := by
 have hb : f i * g k ≤ 65535 * 65535 := Nat.mul_le_mul (by omega) (by omega)
 have hx' : x = 38 * (f i * g k) := by rw [hx, Nat.mul_assoc]
 refine ⟨?_, tms_bd (f := f) (g := g) h.bd _ _ (by omega)⟩
 obtain ⟨c, hc⟩ := h.val
 refine ⟨c + 2 * (dw m * (f i * g k)), ?_⟩
 have e1 : pn g (k + 1) = pn g k + dw k * g k := rfl
 rw [nv_add _ _ _ hm, e1]
 have e : f i * (dw i * (pn g k + dw k * g k)) = f i * (dw i * pn g k) + dw i * dw k * (f i * g k) := by
   rw [Nat.mul_add, Nat.mul_add]; congr 1; rw [← Nat.mul_assoc (dw i), Nat.mul_left_comm]
 rw [e, ← dw_add, hik, dw_add, dw16, hx']
 generalize f i * g k = p
 generalize dw m = d
 have e0 : d * (2 * fp + 38) * p = 2 * (fp * (d * p)) + 38 * (d * p) := by
   rw [Nat.mul_add, Nat.add_mul]
   congr 1
   · rw [Nat.mul_left_comm d 2, Nat.mul_assoc 2, Nat.mul_comm d fp, Nat.mul_assoc]
   · rw [Nat.mul_comm d 38, Nat.mul_assoc]
 have e2 : fp * (c + 2 * (d * p)) = fp * c + 2 * (fp * (d * p)) := by rw [Nat.mul_add, Nat.mul_left_comm fp 2]
 have e3 : d * (38 * p) = 38 * (d * p) := Nat.mul_left_comm _ _ _
 rw [e0, e2, e3]; omega
theorem Tms.row {f g y : Nat → Nat} {i : Nat} (h : Tms f g i 16 y) : Tms f g (i + 1) 0 y := by
 obtain ⟨c, hc⟩ := h.val
 refine ⟨⟨c, ?_⟩, fun j hj => by have := h.bd j hj; omega⟩
 have e1 : pn f (i + 1) = pn f i + dw i * f i := rfl
 have e2 : pn g 0 = 0 := rfl
 have e3 : pn g 16 = nv g := rfl
 rw [hc, e1, e2, e3, Nat.mul_zero, Nat.mul_zero, Nat.add_zero, Nat.add_mul, ← Nat.mul_assoc (f i), Nat.mul_comm (f i)]
theorem Tms.done {f g y : Nat → Nat} (h : Tms f g 16 0 y) : nv y % fp = nv f * nv g % fp ∧ ∀ j, j < 16 → y j < 1125899906842624 := by
 obtain ⟨c, hc⟩ := h.val
 refine ⟨?_, fun j hj => by have := h.bd j hj; omega⟩
 have e2 : pn g 0 = 0 := rfl
 have e3 : pn f 16 = nv f := rfl
 rw [e2, e3, Nat.mul_zero, Nat.mul_zero, Nat.add_zero] at hc
 rw [← hc, Nat.add_mul_mod_self_left]
set_option maxRecDepth 100000 in
set_option maxHeartbeats 4000000 in
theorem times_any (f g : Nat → Nat) (hf : Dig f) (hg : Dig g) (w : World) :
   Calls Tryz.prog 76 #[.agg (ncell f), .agg (ncell g)] w fun e w' => e = .returned (.agg (ncell (dg (nv f * nv g % fp)))) ∧ Gr w w' := by
 have hz := zeroN
 obtain ⟨W0, hW0⟩ : ∃ W, W = ((((w.alloc (.cells (ncell f) 94)).alloc (.cells (ncell g) 94)).alloc (.cells (ncell f0) 94)).alloc (.cells (ncell f0) 94)).setRow (w.heap.size + 3) (ncell f0) := ⟨_, rfl⟩
 have h3 : ((((w.alloc (.cells (ncell f) 94)).alloc (.cells (ncell g) 94)).alloc (.cells (ncell f0) 94)).alloc (.cells (ncell f0) 94)).heap[w.heap.size + 3]? = some (.cells (ncell f0) 94 (0, 0)) := by
   have := heap_alloc_new (((w.alloc (.cells (ncell f) 94)).alloc (.cells (ncell g) 94)).alloc (.cells (ncell f0) 94)) (.cells (ncell f0) 94)
   rwa [World.size_alloc, World.size_alloc, World.size_alloc] at this
 have g3 : W0.heap[w.heap.size + 3]? = some (.cells (ncell f0) 94 (0, 0)) := by rw [hW0]; exact setRow_heap _ _ _ _ _ _ h3
 have g0 : W0.heap[w.heap.size]? = some (.cells (ncell f) 94 (0, 0)) := by
   rw [hW0, setRow_other _ _ _ _ (by omega), heap_alloc_old _ _ (by simp; omega), heap_alloc_old _ _ (by simp; omega), heap_alloc_old _ _ (by simp)]; exact heap_alloc_new _ _
 have g1 : W0.heap[w.heap.size + 1]? = some (.cells (ncell g) 94 (0, 0)) := by
   have := heap_alloc_new (w.alloc (.cells (ncell f) 94)) (.cells (ncell g) 94)
   rw [World.size_alloc] at this
   rw [hW0, setRow_other _ _ _ _ (by omega), heap_alloc_old _ _ (by simp), heap_alloc_old _ _ (by simp)]; exact this
 have g2 : W0.heap[w.heap.size + 2]? = some (.cells (ncell f0) 94 (0, 0)) := by
   have := heap_alloc_new ((w.alloc (.cells (ncell f) 94)).alloc (.cells (ncell g) 94)) (.cells (ncell f0) 94)
   rw [World.size_alloc, World.size_alloc] at this
   rw [hW0, setRow_other _ _ _ _ (by omega), heap_alloc_old _ _ (by simp)]; exact this
 have b0 : Below w.heap.size w W0 := by rw [hW0]; exact below_setRow (by go_grown) (by omega) _
 have H3 := Box.mk h3; have G0 := Box.mk g0; have G1 := Box.mk g1; have G2 := Box.mk g2; have G3 := Box.mk g3; have B0 := Box.mk b0; have HF := Box.mk hf; have HG := Box.mk hg
 clear h3 g0 g1 g2 g3 b0 hf hg
 go_enter Tryz.func76, Tryz.ntmps76
 go_upto_region 2 with ((with_reducible refine wpList_storeN rfl (.tmp 5) (.tmp 8) rfl (w.heap.size + 3) f0 f0 H3.out ?_ ?_ ?_); rfl; rfl)
 go_frame
 rw [← hW0]
 clear hW0 hz H3
 go_wp2_with fail
 go_loopw [6, 7] (fun i _ wr => ∃ (n : Nat) (y : Nat → Nat), n ≤ 16 ∧ i = .int .i64 n ∧ Tms f g n 0 y ∧ wr.heap[w.heap.size]? = some (.cells (ncell f) 94 (0, 0)) ∧ wr.heap[w.heap.size + 1]? = some (.cells (ncell g) 94 (0, 0)) ∧ wr.heap[w.heap.size + 2]? = some (.cells (ncell f0) 94 (0, 0)) ∧ wr.heap[w.heap.size + 3]? = some (.cells (ncell y) 94 (0, 0)) ∧ Below w.heap.size w wr) (fun i _ _ => (16 - intOf i).toNat)
 case atStart => exact ⟨0, f0, by omega, rfl, Tms.start f g, G0.out, G1.out, G2.out, G3.out, B0.out⟩
 case round =>
   clear G0 G1 G2 G3 B0
   obtain ⟨n, y, hn, rfl, ht, ha, hb, hr, hy, hbel⟩ := hrel
   have HT := Box.mk ht; have HA := Box.mk ha; have HB := Box.mk hb; have HR := Box.mk hr; have HY := Box.mk hy; have HBEL := Box.mk hbel
   clear ht ha hb hr hy hbel
   by_cases hnl : n < 16
   · have hnI : (n : Int) < 16 := by omega
     go_wp2_with fail
     obtain ⟨wo, rfl⟩ : ∃ wo : World, wo = wr := ⟨_, rfl⟩
     go_loopw [7] (fun k wr => ∃ (m : Nat) (y : Nat → Nat), m ≤ 16 ∧ k = .int .i64 m ∧ Tms f g n m y ∧ wr.heap[w.heap.size]? = some (.cells (ncell f) 94 (0, 0)) ∧ wr.heap[w.heap.size + 1]? = some (.cells (ncell g) 94 (0, 0)) ∧ wr.heap[w.heap.size + 2]? = some (.cells (ncell f0) 94 (0, 0)) ∧ wr.heap[w.heap.size + 3]? = some (.cells (ncell y) 94 (0, 0)) ∧ Below w.heap.size w wr) (fun k _ => (16 - intOf k).toNat)
     case atStart => exact ⟨0, y, by omega, rfl, HT.out, HA.out, HB.out, HR.out, HY.out, HBEL.out⟩
     case round =>
       clear HA HB HR HY HBEL HT
       obtain ⟨m, y, hm, rfl, ht, ha, hb, hr, hy, hbel⟩ := hrel
       by_cases hml : m < 16
       · have hmI : (m : Int) < 16 := by omega
         have bf := HF.out n hnl
         have bg := HG.out m hml
         have ca : wr.cell? ⟨w.heap.size, n, none⟩ = some (.int .i64 (f n : Nat)) := by rw [cell_of_row _ _ _ _ _ _ ha]; exact ncell_get _ _ hnl
         have cb : wr.cell? ⟨w.heap.size + 1, m, none⟩ = some (.int .i64 (g m : Nat)) := by rw [cell_of_row _ _ _ _ _ _ hb]; exact ncell_get _ _ hml
         have hbp : f n * g m ≤ 65535 * 65535 := Nat.mul_le_mul (by omega) (by omega)
         by_cases hlow : n + m < 16
         · have hlowI : (n : Int) + (m : Int) < 16 := by omega
           have hby := ht.bd (n + m) hlow
           have hstep := fun x hx => ht.low bf bg hlow x hx
           have HSET := Box.mk (ncell_set y (n + m) hlow)
           obtain ⟨s, hs⟩ : ∃ s, s = n + m := ⟨_, rfl⟩
           rw [← hs] at hby hstep HSET hlow
           have hsI : (n : Int) + (m : Int) = (s : Int) := by omega
           have hsl : (s : Int) < 16 := by omega
           have cy : wr.cell? ⟨w.heap.size + 3, s, none⟩ = some (.int .i64 (y s : Nat)) := by rw [cell_of_row _ _ _ _ _ _ hy]; exact ncell_get _ _ hlow
           have zy : wr.frozen? ⟨w.heap.size + 3, s, none⟩ = false := frozen_of_row _ _ _ _ _ hy
           obtain ⟨P, hP⟩ : ∃ P, P = f n * g m := ⟨_, rfl⟩
           have hPI : ((f n : Nat) : Int) * ((g m : Nat) : Int) = (P : Int) := by rw [hP, Int.natCast_mul]
           have hst := hstep P hP
           rw [← hP] at hbp
           obtain ⟨Z, hZ⟩ : ∃ Z, Z = y s + P := ⟨_, rfl⟩
           rw [← hZ] at hst
           generalize f n = x0 at ca hPI
           generalize g m = x1 at cb hPI
           generalize y s = y0 at cy hby hZ
           have hw1 : IntKind.i64.wrap ((x0 : Int) * (x1 : Int)) = (P : Int) := by rw [hPI, IntKind.wrap_i64]; omega
           have hw2 : IntKind.i64.wrap ((y0 : Int) + (P : Int)) = (Z : Int) := by rw [IntKind.wrap_i64]; omega
           have hw3 : IntKind.i64.wrap ((n : Int) + (m : Int)) = (s : Int) := by rw [hsI, IntKind.wrap_i64]; omega
           have HA := Box.mk ha; have HB := Box.mk hb; have HR := Box.mk hr; have HY := Box.mk hy; have HBEL := Box.mk hbel; have HST := Box.mk hst; have HSI := Box.mk hsI
           clear ha hb hr hy hbel hst hstep ht hs hP hPI hZ hsI bf bg hbp hby hlow
           go_upto_region 9 with (fail)
           go_still_tail 14, (by kernel_rfl)
           go_wp2
           refine ⟨⟨m + 1, _, by omega, by go_num, HST.out, ?_, ?_, ?_, ?_, (HBEL.out.setCell (by simp <;> omega) _).drew⟩, by simp [intOf]; omega⟩
           · rw [heap_drew, heap_setCell_other _ _ _ _ (by simp <;> omega)]; exact HA.out
           · rw [heap_drew, heap_setCell_other _ _ _ _ (by simp <;> omega)]; exact HB.out
           · rw [heap_drew, heap_setCell_other _ _ _ _ (by simp <;> omega)]; exact HR.out
           · rw [heap_drew, heap_setCell_same _ _ _ _ _ _ HY.out, HSET.out Z _ rfl]
         · have hlowI : 16 ≤ (n : Int) + (m : Int) := by omega
           obtain ⟨s, hs⟩ : ∃ s, s = n + m - 16 := ⟨_, rfl⟩
           have hs16 : s < 16 := by omega
           have hby := ht.bd s hs16
           have hstep := fun x hx => ht.high bf bg s hs16 (by omega) x hx
           have HSET := Box.mk (ncell_set y s hs16)
           obtain ⟨r, hr'⟩ : ∃ r, r = n + m := ⟨_, rfl⟩
           have hrI : (n : Int) + (m : Int) = (r : Int) := by omega
           have hsI : (r : Int) - 16 = (s : Int) := by omega
           have hsl : (s : Int) < 16 := by omega
           have hrl : 16 ≤ (r : Int) := by omega
           have hrh : (r : Int) < 32 := by omega
           have cy : wr.cell? ⟨w.heap.size + 3, s, none⟩ = some (.int .i64 (y s : Nat)) := by rw [cell_of_row _ _ _ _ _ _ hy]; exact ncell_get _ _ hs16
           have zy : wr.frozen? ⟨w.heap.size + 3, s, none⟩ = false := frozen_of_row _ _ _ _ _ hy
           obtain ⟨V, hV⟩ : ∃ V, V = 38 * f n := ⟨_, rfl⟩
           obtain ⟨P, hP⟩ : ∃ P, P = V * g m := ⟨_, rfl⟩
           have hVI : 38 * ((f n : Nat) : Int) = (V : Int) := by omega
           have hPI : (V : Int) * ((g m : Nat) : Int) = (P : Int) := by rw [hP, Int.natCast_mul]
           have hst := hstep P (by rw [hP, hV])
           have hbP : P ≤ 163208757248 := by rw [hP, hV, Nat.mul_assoc]; omega
           obtain ⟨Z, hZ⟩ : ∃ Z, Z = y s + P := ⟨_, rfl⟩
           rw [← hZ] at hst
           generalize f n = x0 at ca hVI bf
           generalize g m = x1 at cb hPI
           generalize y s = y0 at cy hby hZ
           have hw0 : IntKind.i64.wrap (38 * (x0 : Int)) = (V : Int) := by rw [hVI, IntKind.wrap_i64]; omega
           have hw1 : IntKind.i64.wrap ((V : Int) * (x1 : Int)) = (P : Int) := by rw [hPI, IntKind.wrap_i64]; omega
           have hw2 : IntKind.i64.wrap ((y0 : Int) + (P : Int)) = (Z : Int) := by rw [IntKind.wrap_i64]; omega
           have hw3 : IntKind.i64.wrap ((n : Int) + (m : Int)) = (r : Int) := by rw [hrI, IntKind.wrap_i64]; omega
           have hw4 : IntKind.i64.wrap ((r : Int) - 16) = (s : Int) := by rw [hsI, IntKind.wrap_i64]; omega
           have HA := Box.mk ha; have HB := Box.mk hb; have HR := Box.mk hr; have HY := Box.mk hy; have HBEL := Box.mk hbel; have HST := Box.mk hst
           clear ha hb hr hy hbel hst hstep ht hs hP hPI hZ hsI bf bg hbp hby hlow hs16 hVI hV hbP hr' hrI
           go_upto_region 10 with (fail)
           go_still_tail 16, (by kernel_rfl)
           go_wp2
           refine ⟨⟨m + 1, _, by omega, by go_num, HST.out, ?_, ?_, ?_, ?_, (HBEL.out.setCell (by simp <;> omega) _).drew⟩, by simp [intOf]; omega⟩
           · rw [heap_drew, heap_setCell_other _ _ _ _ (by simp <;> omega)]; exact HA.out
           · rw [heap_drew, heap_setCell_other _ _ _ _ (by simp <;> omega)]; exact HB.out
           · rw [heap_drew, heap_setCell_other _ _ _ _ (by simp <;> omega)]; exact HR.out
           · rw [heap_drew, heap_setCell_same _ _ _ _ _ _ HY.out, HSET.out Z _ rfl]
       · obtain rfl : m = 16 := by omega
         have HT := Box.mk ht.row; have HA := Box.mk ha; have HB := Box.mk hb; have HR := Box.mk hr; have HY := Box.mk hy; have HBEL := Box.mk hbel
         clear ht ha hb hr hy hbel
         go_wp2_with fail
         exact ⟨⟨n + 1, y, by omega, by go_num, HT.out, HA.out, HB.out, HR.out, HY.out, HBEL.out⟩, by simp [intOf]; omega⟩
   · obtain rfl : n = 16 := by omega
     obtain ⟨hv, hyb⟩ := HT.out.done
     have HV := Box.mk hv; have HYB := Box.mk hyb
     clear hv hyb HA HB HT
     go_wp2_with ((with_reducible refine wpList_loadN rfl (.tmp 5) rfl (w.heap.size + 3) y HY.out ?_ ?_); rfl)
     refine (modD _ y HYB.out).mono ?_
     rintro e w2 ⟨rfl, hb2⟩
     have hr2 := hb2.block HR.out
     have HR2 := Box.mk hr2; have HB2 := Box.mk (HBEL.out.trans (hb2.below.mono HBEL.out.size))
     clear hr2 hb2
     go_wp2_with ((with_reducible refine wpList_storeN rfl (.tmp 4) (.tmp 52) rfl (w.heap.size + 2) (dg (nv y % fp)) f0 HR2.out ?_ ?_ ?_); rfl; rfl)
     go_frame
     refine bodyPost_ret (results_cell_row (p := 4) (ty := 94) rfl _ _ (w.heap.size + 2) 94 (ncell _) (0, 0) _ rfl (setRow_heap _ _ _ _ _ _ HR2.out) Tryz.underlying94 rfl (by kernel_rfl)) rfl ⟨by rw [HV.out], ?_⟩
     exact below_setRow HB2.out (by omega) _
theorem timesD (w : World) (a b : Nat) (ha : a < dw 16) (hb : b < dw 16) : Calls Tryz.prog 76 #[.agg (ncell (dg a)), .agg (ncell (dg b))] w fun e w' => e = .returned (.agg (ncell (dg (a * b % fp)))) ∧ Gr w w' :=
 (times_any _ _ (dg_dig a) (dg_dig b) w).mono fun _ _ ⟨he, hb'⟩ => ⟨by rw [he, nv_dg ha, nv_dg hb], hb'⟩
end Go.Proofs.YtafhncpaoolljaaGreat.Fe
