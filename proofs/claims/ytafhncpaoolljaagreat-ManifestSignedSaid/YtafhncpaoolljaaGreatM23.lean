/- The document's numbers: Power, Num, Inverse. The document's numbers: half. Strings of 32 bytes as numbers. Nothing of the program. -/
import Derived.Test.YtafhncpaoolljaaGreatM22
import Derived.Test.YtafhncpaoolljaaGreatM13
namespace Go.Proofs.YtafhncpaoolljaaGreat.Fe
set_option maxRecDepth 100000
set_option linter.unusedVariables false
open Go Go.RowKit
def pwr (a n m : Nat) : Nat := a ^ (n / 2 ^ m) % fp
theorem pwr_dw (a n m : Nat) : pwr a n m < dw 16 := mod_dw _
theorem pwr_start (a n : Nat) (hn : n < dw 16) : pwr a n 256 = 1 := by
 unfold pwr
 rw [show n / 2 ^ 256 = 0 from Nat.div_eq_of_lt hn, Nat.pow_zero, fp_eq]
theorem pwr_step (a n m : Nat) : pwr a n m = (if n / 2 ^ m % 2 = 1 then pwr a n (m + 1) * pwr a n (m + 1) % fp * a % fp else pwr a n (m + 1) * pwr a n (m + 1) % fp) := by
 unfold pwr
 have e : n / 2 ^ m = 2 * (n / 2 ^ (m + 1)) + n / 2 ^ m % 2 := by rw [Nat.pow_succ, ← Nat.div_div_eq_div_mul]; omega
 have hb2 : n / 2 ^ m % 2 < 2 := Nat.mod_lt _ (by omega)
 generalize hq : n / 2 ^ (m + 1) = q at e
 generalize n / 2 ^ m % 2 = b at e hb2
 rw [e]
 have h2 : a ^ q % fp * (a ^ q % fp) % fp = a ^ (2 * q) % fp := by rw [← Nat.mul_mod, Nat.two_mul, Nat.pow_add]
 rw [h2]
 split
 · rename_i hb; subst hb
   rw [Nat.pow_succ, Nat.mod_mul_mod]
 · rename_i hb
   obtain rfl : b = 0 := by omega
   rfl
theorem bit_at (n i : Nat) : dg n (i / 16) / 2 ^ (i % 16) % 2 = n / 2 ^ i % 2 := by
 rw [dg_eq]
 have e : 2 ^ i = 2 ^ (16 * (i / 16)) * 2 ^ (i % 16) := by rw [← Nat.pow_add, Nat.div_add_mod]
 have e2 : 65536 = 2 ^ (i % 16) * (2 * 2 ^ (15 - i % 16)) := by
   rw [← Nat.pow_succ', ← Nat.pow_add, show i % 16 + (15 - i % 16 + 1) = 16 by omega]
 rw [e, ← Nat.div_div_eq_div_mul, e2, Nat.mod_mul_right_div_self, Nat.mod_mul_right_mod]
theorem i64_and1 (n : Int) : bits .and .i64 n 1 = n % 2 := by
 have h1 : (BitVec.ofInt 64 1).toNat = 1 := by decide
 have key : (BitVec.ofInt 64 n &&& BitVec.ofInt 64 1).toNat = (n % ((2 ^ 64 : Nat) : Int)).toNat % 2 := by
   rw [BitVec.toNat_and, BitVec.toNat_ofInt, h1, Nat.and_one_is_mod]
 show IntKind.i64.wrap ((BitVec.ofInt 64 n &&& BitVec.ofInt 64 1).toNat : Nat) = n % 2
 rw [key, IntKind.wrap_i64]
 omega
set_option maxRecDepth 100000 in
set_option maxHeartbeats 4000000 in
theorem powerD (w : World) (a n : Nat) (ha : a < dw 16) (hn : n < dw 16) :
   Calls Tryz.prog 111 #[.agg (ncell (dg a)), .agg (ncell (dg n))] w fun e w' => e = .returned (.agg (ncell (dg (a ^ n % fp)))) ∧ Gr w w' := by
 have hz := zeroN
 obtain ⟨W0, hW0⟩ : ∃ W, W = ((w.alloc (.cells (ncell (dg a)) 94)).alloc (.cells (ncell (dg n)) 94)).alloc (.cells (ncell f0) 94) := ⟨_, rfl⟩
 have g0 : W0.heap[w.heap.size]? = some (.cells (ncell (dg a)) 94 (0, 0)) := by rw [hW0, heap_alloc_old _ _ (by simp; omega), heap_alloc_old _ _ (by simp)]; exact heap_alloc_new _ _
 have g1 : W0.heap[w.heap.size + 1]? = some (.cells (ncell (dg n)) 94 (0, 0)) := by
   have := heap_alloc_new (w.alloc (.cells (ncell (dg a)) 94)) (.cells (ncell (dg n)) 94)
   rw [World.size_alloc] at this
   rw [hW0, heap_alloc_old _ _ (by simp)]; exact this
 have g2 : W0.heap[w.heap.size + 2]? = some (.cells (ncell f0) 94 (0, 0)) := by
   have := heap_alloc_new ((w.alloc (.cells (ncell (dg a)) 94)).alloc (.cells (ncell (dg n)) 94)) (.cells (ncell f0) 94)
   rw [World.size_alloc, World.size_alloc] at this
   rw [hW0]; exact this
 have b0 : Below w.heap.size w W0 := by rw [hW0]; go_grown
 have G0 := Box.mk g0; have G1 := Box.mk g1; have G2 := Box.mk g2; have B0 := Box.mk b0; have HA := Box.mk ha; have HN := Box.mk hn
 clear g0 g1 g2 b0 ha hn
 go_enter Tryz.func111, Tryz.ntmps111
 go_upto_region 1 with (fail)
 rw [← hW0]
 clear hW0
 go_wp2_with fail
 refine (smallD _ 1 (by omega)).mono ?_
 rintro e w1 ⟨rfl, hg1⟩
 replace G0 := Box.mk (hg1.block G0.out); replace G1 := Box.mk (hg1.block G1.out); replace G2 := Box.mk (hg1.block G2.out); replace B0 := Box.mk (B0.out.trans (hg1.below.mono B0.out.size))
 clear hg1
 obtain ⟨b, hb⟩ : ∃ b, b = w1.heap.size := ⟨_, rfl⟩
 have hbs : w.heap.size + 2 < b := by rw [hb]; exact Gr.blt G2.out
 obtain ⟨W2, hW2⟩ : ∃ W, W = (w1.alloc (.cells (ncell f0) 94)).setRow w1.heap.size (ncell (dg 1)) := ⟨_, rfl⟩
 have h3 : (w1.alloc (.cells (ncell f0) 94)).heap[w1.heap.size]? = some (.cells (ncell f0) 94 (0, 0)) := heap_alloc_new _ _
 have H3 := Box.mk h3
 go_upto_region 2 with ((with_reducible refine wpList_storeN rfl (.tmp 5) (.tmp 7) rfl w1.heap.size (dg 1) f0 H3.out ?_ ?_ ?_); rfl; rfl)
 go_frame
 rw [← hW2]
 have g3 : W2.heap[b]? = some (.cells (ncell (dg 1)) 94 (0, 0)) := by rw [hW2, hb]; exact setRow_heap _ _ _ _ _ _ h3
 have old : ∀ k X, w1.heap[k]? = some X → W2.heap[k]? = some X := fun k X hk => by
   have hlt := Gr.blt hk
   rw [hW2, setRow_other _ _ _ _ (by omega), heap_alloc_old _ _ hlt]; exact hk
 replace G0 := Box.mk (old _ _ G0.out); replace G1 := Box.mk (old _ _ G1.out); replace G2 := Box.mk (old _ _ G2.out); have G3 := Box.mk g3
 have B2 := Box.mk (show Below w.heap.size w W2 from by rw [hW2]; exact below_setRow (B0.out.alloc B0.out.size _) B0.out.size _)
 rw [← hb]
 clear h3 H3 hW2 hb old B0 g3 hz
 go_wp2_with fail
 go_loopw [6] (fun i wr => ∃ m : Nat, m ≤ 256 ∧ i = .int .i64 ((m : Int) - 1) ∧ wr.heap[w.heap.size]? = some (.cells (ncell (dg a)) 94 (0, 0)) ∧ wr.heap[w.heap.size + 1]? = some (.cells (ncell (dg n)) 94 (0, 0)) ∧ wr.heap[w.heap.size + 2]? = some (.cells (ncell f0) 94 (0, 0)) ∧ wr.heap[b]? = some (.cells (ncell (dg (pwr a n m))) 94 (0, 0)) ∧ Below w.heap.size w wr) (fun i _ => (intOf i + 1).toNat)
 case atStart => exact ⟨256, by omega, rfl, G0.out, G1.out, G2.out, by rw [pwr_start a n HN.out]; exact G3.out, B2.out⟩
 case round =>
   clear G0 G1 G2 G3 B2
   obtain ⟨m, hm, rfl, ha, hn, hr, ho, hbel⟩ := hrel
   have HAA := Box.mk ha; have HNN := Box.mk hn; have HR := Box.mk hr; have HO := Box.mk ho; have HBEL := Box.mk hbel
   clear ha hn hr ho hbel
   by_cases hm0 : 0 < m
   · obtain ⟨i, rfl⟩ : ∃ i, m = i + 1 := ⟨m - 1, by omega⟩
     have hi : i < 256 := by omega
     have hiI : (i : Int) < 256 := by omega
     have hcast : ((i + 1 : Nat) : Int) - 1 = (i : Int) := by omega
     rw [hcast]
     clear hcast hm hm0
     go_wp2_with (first
       | ((with_reducible refine wpList_loadN rfl (.tmp 5) rfl b (dg (pwr a n (i + 1))) HO.out ?_ ?_); rfl))
     refine (timesD _ _ _ (pwr_dw _ _ _) (pwr_dw _ _ _)).mono ?_
     rintro e w2 ⟨rfl, hg⟩
     obtain ⟨x, hx⟩ : ∃ x, x = pwr a n (i + 1) * pwr a n (i + 1) % fp := ⟨_, rfl⟩
     have hxd : x < dw 16 := by rw [hx]; exact mod_dw _
     rw [← hx]
     have HX := Box.mk hx; have HXD := Box.mk hxd
     clear hx hxd
     replace HAA := Box.mk (hg.block HAA.out); replace HNN := Box.mk (hg.block HNN.out); replace HR := Box.mk (hg.block HR.out); replace HO := Box.mk (hg.block HO.out); replace HBEL := Box.mk (HBEL.out.trans (hg.below.mono HBEL.out.size))
     clear hg
     obtain ⟨W3, hW3⟩ : ∃ W, W = w2.setRow b (ncell (dg x)) := ⟨_, rfl⟩
     go_upto_region 6 with ((with_reducible refine wpList_storeN rfl (.tmp 5) (.tmp 14) rfl b (dg x) (dg (pwr a n (i + 1))) HO.out ?_ ?_ ?_); rfl; rfl)
     go_frame
     rw [← hW3]
     replace HAA := Box.mk (show W3.heap[w.heap.size]? = some (.cells (ncell (dg a)) 94 (0, 0)) from by rw [hW3, setRow_other _ _ _ _ (by omega)]; exact HAA.out)
     replace HNN := Box.mk (show W3.heap[w.heap.size + 1]? = some (.cells (ncell (dg n)) 94 (0, 0)) from by rw [hW3, setRow_other _ _ _ _ (by omega)]; exact HNN.out)
     replace HR := Box.mk (show W3.heap[w.heap.size + 2]? = some (.cells (ncell f0) 94 (0, 0)) from by rw [hW3, setRow_other _ _ _ _ (by omega)]; exact HR.out)
     replace HO := Box.mk (show W3.heap[b]? = some (.cells (ncell (dg x)) 94 (0, 0)) from by rw [hW3]; exact setRow_heap _ _ _ _ _ _ HO.out)
     replace HBEL := Box.mk (show Below w.heap.size w W3 from by rw [hW3]; exact below_setRow HBEL.out (by omega) _)
     clear hW3
     obtain ⟨q, hq⟩ : ∃ q, q = i / 16 := ⟨_, rfl⟩
     obtain ⟨r, hr⟩ : ∃ r, r = i % 16 := ⟨_, rfl⟩
     have hqI : (i : Int) / 16 = (q : Int) := by omega
     have hrI : (i : Int) % 16 = (r : Int) := by omega
     have hq16 : (q : Int) < 16 := by omega
     have hr16 : (r : Int) < 16 := by omega
     have hqn : q < 16 := by omega
     have hbit := bit_at n i
     rw [← hq, ← hr] at hbit
     have c0 : W3.cell? ⟨w.heap.size + 1, q, none⟩ = some (.int .i64 (dg n q : Nat)) := by rw [cell_of_row _ _ _ _ _ _ HNN.out]; exact ncell_get _ _ hqn
     have hdb := dg_dig n q hqn
     generalize dg n q = y at c0 hbit hdb
     obtain ⟨z, hz⟩ : ∃ z, z = y / 2 ^ r := ⟨_, rfl⟩
     have hsh : (y : Int) / 2 ^ r = (z : Int) := by rw [hz]; simp
     have hand := i64_and1 (z : Int)
     rw [← hz] at hbit
     have hz2 : z % 2 < 2 := Nat.mod_lt _ (by omega)
     have hps := pwr_step a n i
     rw [← hbit, ← HX.out] at hps
     have HPS := Box.mk hps
     clear hq hr hbit hz hps
     by_cases hbit1 : z % 2 = 1
     · rw [show (z : Int) % 2 = 1 by omega] at hand
       have HB1 := Box.mk hbit1
       clear hbit1 hz2
       go_wp2_with (first
         | ((with_reducible refine wpList_loadN rfl (.tmp 5) rfl b (dg x) HO.out ?_ ?_); rfl)
         | ((with_reducible refine wpList_loadN rfl (.tmp 2) rfl w.heap.size (dg a) HAA.out ?_ ?_); rfl))
       refine (timesD _ _ _ HXD.out HA.out).mono ?_
       rintro e w4 ⟨rfl, hg⟩
       replace HAA := Box.mk (hg.block HAA.out); replace HNN := Box.mk (hg.block HNN.out); replace HR := Box.mk (hg.block HR.out); replace HO := Box.mk (hg.block HO.out); replace HBEL := Box.mk (HBEL.out.trans (hg.below.mono HBEL.out.size))
       clear hg
       obtain ⟨v, hv⟩ : ∃ v, v = x * a % fp := ⟨_, rfl⟩
       rw [← hv]
       have HV := Box.mk hv
       clear hv hand hsh
       go_wp2_with ((with_reducible refine wpList_storeN rfl (.tmp 5) (.tmp 26) rfl b (dg v) (dg x) HO.out ?_ ?_ ?_); rfl; rfl)
       have hvp : pwr a n i = v := by rw [HPS.out, if_pos HB1.out, HV.out]
       refine ⟨⟨i, by omega, rfl, ?_, ?_, ?_, ?_, below_setRow HBEL.out (by omega) _⟩, by simp [intOf] <;> omega⟩
       · rw [setRow_other _ _ _ _ (by omega)]; exact HAA.out
       · rw [setRow_other _ _ _ _ (by omega)]; exact HNN.out
       · rw [setRow_other _ _ _ _ (by omega)]; exact HR.out
       · rw [hvp]; exact setRow_heap _ _ _ _ _ _ HO.out
     · rw [show (z : Int) % 2 = 0 by omega] at hand
       have HB1 := Box.mk hbit1
       clear hbit1 hz2
       go_wp2_with fail
       have hvp : pwr a n i = x := by rw [HPS.out, if_neg HB1.out]
       exact ⟨⟨i, by omega, rfl, HAA.out, HNN.out, HR.out, by rw [hvp]; exact HO.out, HBEL.out⟩, by simp [intOf] <;> omega⟩
   · obtain rfl : m = 0 := by omega
     have hcast : ((0 : Nat) : Int) - 1 = -1 := rfl
     rw [hcast]
     clear hm0 hcast
     go_wp2_with (first
       | ((with_reducible refine wpList_loadN rfl (.tmp 5) rfl b (dg (pwr a n 0)) HO.out ?_ ?_); rfl)
       | ((with_reducible refine wpList_storeN rfl (.tmp 4) (.tmp 27) rfl (w.heap.size + 2) (dg (pwr a n 0)) f0 HR.out ?_ ?_ ?_); rfl; rfl))
     go_frame
     have hp0 : pwr a n 0 = a ^ n % fp := by unfold pwr; rw [Nat.pow_zero, Nat.div_one]
     refine bodyPost_ret (results_cell_row (p := 4) (ty := 94) rfl _ _ (w.heap.size + 2) 94 (ncell _) (0, 0) _ rfl (setRow_heap _ _ _ _ _ _ HR.out) Tryz.underlying94 rfl (by kernel_rfl)) rfl ⟨by rw [hp0], ?_⟩
     exact below_setRow HBEL.out (by omega) _
theorem nvd {n : Nat} (hn : n < dw 16) : nv (dg n) % fp = n % fp := by rw [nv_dg hn]
theorem dg_small (n j : Nat) (hj : j < 16) : dg n j < 1125899906842624 := Nat.lt_of_lt_of_le (dg_dig n j hj) (by omega)
theorem num_dw (s : ByteArray) (hs : s.size = 32) : Go.Proofs.YtafhncpaoolljaaGreat.num s < dw 16 := by
 have h := leNat_lt s.data.toList
 rw [show s.data.toList.length = 32 from by rw [← hs]; simp] at h
 exact Nat.lt_of_lt_of_le h (by decide)
set_option maxRecDepth 100000 in
set_option maxHeartbeats 1000000 in
theorem numD (s : ByteArray) (hs : s.size = 32) (w : World) :
   Calls Tryz.prog 102 #[.string s] w fun e w' => e = .returned (.agg (ncell (dg (Go.Proofs.YtafhncpaoolljaaGreat.num s % fp)))) ∧ Gr w w' := by
 have hz := zeroN
 have hd := num_dw s hs
 obtain ⟨W0, hW0⟩ : ∃ W, W = w.alloc (.cells (ncell f0) 94) := ⟨_, rfl⟩
 have g0 : W0.heap[w.heap.size]? = some (.cells (ncell f0) 94 (0, 0)) := by rw [hW0]; exact heap_alloc_new _ _
 have b0 : Below w.heap.size w W0 := by rw [hW0]; go_grown
 have G0 := Box.mk g0; have B0 := Box.mk b0; have HS := Box.mk hs; have HD := Box.mk hd
 clear g0 b0 hs hd
 go_enter Tryz.func102, Tryz.ntmps102
 go_upto_region 1 with (fail)
 rw [← hW0]
 clear hW0 hz
 go_wp2_with fail
 refine (digitsD s HS.out _).mono ?_
 rintro e w2 ⟨rfl, hg⟩
 replace G0 := Box.mk (hg.block G0.out); replace B0 := Box.mk (B0.out.trans (hg.below.mono B0.out.size))
 clear hg
 go_wp2_with fail
 refine (modD _ _ (fun j hj => dg_small _ j hj)).mono ?_
 rintro e w3 ⟨rfl, hg⟩
 rw [nvd HD.out]
 replace G0 := Box.mk (hg.block G0.out); replace B0 := Box.mk (B0.out.trans (hg.below.mono B0.out.size))
 clear hg
 go_wp2_with ((with_reducible refine wpList_storeN rfl (.tmp 2) (.tmp 5) rfl w.heap.size (dg (Go.Proofs.YtafhncpaoolljaaGreat.num s % fp)) f0 G0.out ?_ ?_ ?_); rfl; rfl)
 go_frame
 refine bodyPost_ret (results_cell_row (p := 2) (ty := 94) rfl _ _ w.heap.size 94 (ncell _) (0, 0) _ rfl (setRow_heap _ _ _ _ _ _ G0.out) Tryz.underlying94 rfl (by kernel_rfl)) rfl ⟨rfl, ?_⟩
 exact below_setRow B0.out (Nat.le_refl _) _
theorem two_le_fp : 2 ≤ fp := by rw [fp_eq]; decide
theorem five_le_fp : 5 ≤ fp := by rw [fp_eq]; decide
set_option maxRecDepth 100000 in
set_option maxHeartbeats 1000000 in
theorem inverseD (a : Nat) (ha : a < dw 16) (w : World) :
   Calls Tryz.prog 78 #[.agg (ncell (dg a))] w fun e w' => e = .returned (.agg (ncell (dg (a ^ (fp - 2) % fp)))) ∧ Gr w w' := by
 have hz := zeroN
 obtain ⟨W0, hW0⟩ : ∃ W, W = (w.alloc (.cells (ncell (dg a)) 94)).alloc (.cells (ncell f0) 94) := ⟨_, rfl⟩
 have g0 : W0.heap[w.heap.size]? = some (.cells (ncell (dg a)) 94 (0, 0)) := by rw [hW0, heap_alloc_old _ _ (by simp)]; exact heap_alloc_new _ _
 have g1 : W0.heap[w.heap.size + 1]? = some (.cells (ncell f0) 94 (0, 0)) := by
   have := heap_alloc_new (w.alloc (.cells (ncell (dg a)) 94)) (.cells (ncell f0) 94)
   rw [World.size_alloc] at this
   rw [hW0]; exact this
 have b0 : Below w.heap.size w W0 := by rw [hW0]; go_grown
 have G0 := Box.mk g0; have G1 := Box.mk g1; have B0 := Box.mk b0; have HA := Box.mk ha
 clear g0 g1 b0 ha
 go_enter Tryz.func78, Tryz.ntmps78
 go_upto_region 1 with (fail)
 rw [← hW0]
 clear hW0 hz
 refine wp_region_mix 5 [.flo, .cha, .cha, .cha, .cha] (by kernel_rfl) (by kernel_rfl) rfl ?_
 simp only [List.take, List.zip, List.zipWith]
 refine gm_loadN (.tmp 1) rfl w.heap.size (dg a) G0.out rfl ?_
 refine gm_call [] (by kernel_rfl) rfl rfl Stb.tt (fun w1 hw1 _ => (pD w1).mono ?_)
 rintro e w2 ⟨rfl, hw2⟩
 refine ⟨_, rfl, hw2, ?_⟩
 refine gm_call [.int .i64 2] (by kernel_rfl) rfl rfl Stb.tt (fun w1 hw1 _ => (smallD w1 2 (by omega)).mono ?_)
 rintro e w2 ⟨rfl, hw2⟩
 refine ⟨_, rfl, hw2, ?_⟩
 refine gm_call [.agg (ncell (dg fp)), .agg (ncell (dg 2))] (by kernel_rfl) rfl rfl Stb.tt (fun w1 hw1 _ => (lessD w1 fp 2 fp_dw two_le_fp).mono ?_)
 rintro e w2 ⟨rfl, hw2⟩
 refine ⟨_, rfl, hw2, ?_⟩
 refine gm_call [.agg (ncell (dg a)), .agg (ncell (dg (fp - 2)))] (by kernel_rfl) rfl rfl Stb.tt (fun w1 hw1 _ => (powerD w1 a (fp - 2) HA.out (Nat.lt_of_le_of_lt (Nat.sub_le _ _) fp_dw)).mono ?_)
 rintro e w2 ⟨rfl, hw2⟩
 refine ⟨_, rfl, hw2, ?_⟩
 refine gm_nil ?_
 intro w7 hw7 _
 simp only [List.drop]
 have G1 := Box.mk (hw7.block (b := w.heap.size + 1) G1.out)
 go_frame
 go_wp2_with ((with_reducible refine wpList_storeN rfl (.tmp 2) (.tmp 7) rfl (w.heap.size + 1) (dg (a ^ (fp - 2) % fp)) f0 G1.out ?_ ?_ ?_); rfl; rfl)
 go_frame
 refine bodyPost_ret (results_cell_row (p := 2) (ty := 94) rfl _ _ (w.heap.size + 1) 94 (ncell _) (0, 0) _ rfl (setRow_heap _ _ _ _ _ _ G1.out) Tryz.underlying94 rfl (by kernel_rfl)) rfl ⟨rfl, ?_⟩
 exact below_setRow (B0.out.drew.trans (hw7.below.mono B0.out.size)) (by omega) _
open Go Go.RowKit
def hfF (n i : Nat) : Nat → Nat := fun j => if j < i then dg (n / 2) j else dg n j
theorem hfF_zero (n : Nat) : hfF n 0 = dg n := by funext j; simp [hfF]
theorem hfF_all (n : Nat) : ncell (hfF n 16) = ncell (dg (n / 2)) := ncell_congr fun j hj => by unfold hfF; rw [if_pos hj]
theorem hfF_at (n i : Nat) : hfF n i i = dg n i := by simp [hfF]
theorem hfF_step (n i : Nat) : upd (hfF n i) i (dg (n / 2) i) = hfF n (i + 1) := by
 funext j
 simp only [upd, hfF]
 by_cases h : j = i
 · subst h; rw [if_pos rfl, if_pos (by omega)]
 · rw [if_neg h]
   by_cases h2 : j < i
   · rw [if_pos h2, if_pos (by omega)]
   · rw [if_neg h2, if_neg (by omega)]
theorem half_low (n i : Nat) : dg (n / 2) i = dg n i / 2 + dg n (i + 1) % 2 * 32768 := by
 rw [dg_eq, dg_eq, dg_eq, Nat.mul_add, Nat.pow_add, ← Nat.div_div_eq_div_mul n (2 ^ (16 * i)), Nat.div_div_eq_div_mul n 2, Nat.mul_comm 2, ← Nat.div_div_eq_div_mul n (2 ^ (16 * i)) 2]
 generalize n / 2 ^ (16 * i) = q
 omega
theorem half_top (n : Nat) (hn : n < dw 16) : dg (n / 2) 15 = dg n 15 / 2 := by
 rw [dg_eq, dg_eq, Nat.div_div_eq_div_mul n 2, Nat.mul_comm 2, ← Nat.div_div_eq_div_mul n (2 ^ (16 * 15)) 2]
 have : n / 2 ^ (16 * 15) < 65536 := Nat.div_lt_of_lt_mul hn
 generalize n / 2 ^ (16 * 15) = q at this
 omega
set_option maxRecDepth 100000 in
set_option maxHeartbeats 4000000 in
theorem halfD (w : World) (n : Nat) (hn : n < dw 16) (t : Nat) (ht : t ≤ 1000) :
   Calls Tryz.prog 131 #[.agg (ncell (dg n)), .int .i64 t] w fun e w' => e = .returned (.agg (ncell (dg (n / 2 ^ t)))) ∧ Gr w w' := by
 have hz := zeroN
 obtain ⟨W0, hW0⟩ : ∃ W, W = (((w.alloc (.cells (ncell (dg n)) 94)).alloc (.cells (ncell f0) 94)).alloc (.cells (ncell f0) 94)).setRow (w.heap.size + 2) (ncell (dg n)) := ⟨_, rfl⟩
 have h2 : (((w.alloc (.cells (ncell (dg n)) 94)).alloc (.cells (ncell f0) 94)).alloc (.cells (ncell f0) 94)).heap[w.heap.size + 2]? = some (.cells (ncell f0) 94 (0, 0)) := by
   have := heap_alloc_new ((w.alloc (.cells (ncell (dg n)) 94)).alloc (.cells (ncell f0) 94)) (.cells (ncell f0) 94)
   rwa [World.size_alloc, World.size_alloc] at this
 have ha0 : ((w.alloc (.cells (ncell (dg n)) 94)).alloc (.cells (ncell f0) 94)).heap[w.heap.size]? = some (.cells (ncell (dg n)) 94 (0, 0)) := by
   rw [heap_alloc_old _ _ (by simp)]; exact heap_alloc_new _ _
 have g2 : W0.heap[w.heap.size + 2]? = some (.cells (ncell (dg n)) 94 (0, 0)) := by rw [hW0]; exact setRow_heap _ _ _ _ _ _ h2
 have g0 : W0.heap[w.heap.size]? = some (.cells (ncell (dg n)) 94 (0, 0)) := by
   rw [hW0, setRow_other _ _ _ _ (by omega), heap_alloc_old _ _ (by simp; omega), heap_alloc_old _ _ (by simp)]; exact heap_alloc_new _ _
 have g1 : W0.heap[w.heap.size + 1]? = some (.cells (ncell f0) 94 (0, 0)) := by
   have := heap_alloc_new (w.alloc (.cells (ncell (dg n)) 94)) (.cells (ncell f0) 94)
   rw [World.size_alloc] at this
   rw [hW0, setRow_other _ _ _ _ (by omega), heap_alloc_old _ _ (by simp)]; exact this
 have b0 : Below w.heap.size w W0 := by rw [hW0]; exact below_setRow (by go_grown) (by omega) _
 have H2 := Box.mk h2; have HA0 := Box.mk ha0; have G0 := Box.mk g0; have G1 := Box.mk g1; have G2 := Box.mk g2; have B0 := Box.mk b0; have HN := Box.mk hn
 clear h2 ha0 g0 g1 g2 b0 hn
 go_enter Tryz.func131, Tryz.ntmps131
 go_upto_region 2 with (first
   | ((with_reducible refine wpList_loadN rfl (.tmp 2) rfl w.heap.size (dg n) HA0.out ?_ ?_); rfl)
   | ((with_reducible refine wpList_storeN rfl (.tmp 5) (.tmp 8) rfl (w.heap.size + 2) (dg n) f0 H2.out ?_ ?_ ?_); rfl; rfl))
 go_frame
 rw [← hW0]
 clear hW0 hz H2 HA0
 have htI : (t : Int) ≤ 1000 := by omega
 go_wp2_with fail
 go_loopw [6, 7] (fun i _ wr => ∃ j : Nat, j ≤ t ∧ i = .int .i64 j ∧ wr.heap[w.heap.size]? = some (.cells (ncell (dg (n / 2 ^ j))) 94 (0, 0)) ∧ wr.heap[w.heap.size + 1]? = some (.cells (ncell f0) 94 (0, 0)) ∧ wr.heap[w.heap.size + 2]? = some (.cells (ncell (dg (n / 2 ^ j))) 94 (0, 0)) ∧ Below w.heap.size w wr) (fun i _ _ => (t - intOf i).toNat)
 case atStart => exact ⟨0, by omega, rfl, by simpa using G0.out, G1.out, by simpa using G2.out, B0.out⟩
 case round =>
   clear G0 G1 G2 B0
   obtain ⟨j, hj, rfl, ha, hr, hx, hbel⟩ := hrel
   have HA := Box.mk ha; have HR := Box.mk hr; have HX := Box.mk hx; have HBEL := Box.mk hbel
   clear ha hr hx hbel
   by_cases hjt : j < t
   · have hjI : (j : Int) < (t : Int) := by omega
     have hjb : (j : Int) < 1000 := by omega
     obtain ⟨q, hq⟩ : ∃ q, q = n / 2 ^ j := ⟨_, rfl⟩
     have hqd : q < dw 16 := by rw [hq]; exact Nat.lt_of_le_of_lt (Nat.div_le_self _ _) HN.out
     rw [← hq] at HA HX
     have HQ := Box.mk hq; have HQD := Box.mk hqd
     clear hq hqd
     go_wp2_with fail
     obtain ⟨wo, rfl⟩ : ∃ wo : World, wo = wr := ⟨_, rfl⟩
     go_loopw [7] (fun k wr => ∃ m : Nat, m ≤ 16 ∧ k = .int .i64 m ∧ wr.heap[w.heap.size]? = some (.cells (ncell (dg q)) 94 (0, 0)) ∧ wr.heap[w.heap.size + 1]? = some (.cells (ncell f0) 94 (0, 0)) ∧ wr.heap[w.heap.size + 2]? = some (.cells (ncell (hfF q m)) 94 (0, 0)) ∧ Below w.heap.size w wr) (fun k _ => (16 - intOf k).toNat)
     case atStart => exact ⟨0, by omega, rfl, HA.out, HR.out, by rw [hfF_zero]; exact HX.out, HBEL.out⟩
     case round =>
       clear HA HR HX HBEL
       obtain ⟨m, hm, rfl, ha, hr, hx, hbel⟩ := hrel
       by_cases hml : m < 16
       · have hmI : (m : Int) < 16 := by omega
         have cx : wr.cell? ⟨w.heap.size + 2, m, none⟩ = some (.int .i64 (hfF q m m : Nat)) := by rw [cell_of_row _ _ _ _ _ _ hx]; exact ncell_get _ _ hml
         have zx : wr.frozen? ⟨w.heap.size + 2, m, none⟩ = false := frozen_of_row _ _ _ _ _ hx
         rw [hfF_at] at cx
         have HSET := Box.mk (fun f => ncell_set f m hml)
         have HST := Box.mk (hfF_step q m)
         have hd := dg_dig q m hml
         by_cases hm15 : m < 15
         · have hm15I : (m : Int) < 15 := by omega
           have ca : wr.cell? ⟨w.heap.size, m + 1, none⟩ = some (.int .i64 (dg q (m + 1) : Nat)) := by rw [cell_of_row _ _ _ _ _ _ ha]; exact ncell_get _ _ (by omega)
           have hd1 := dg_dig q (m + 1) (by omega)
           have hlow := half_low q m
           have HLOW := Box.mk hlow
           obtain ⟨m1, hm1⟩ : ∃ m1, m1 = m + 1 := ⟨_, rfl⟩
           have hm1I : (m : Int) + 1 = (m1 : Int) := by omega
           have hm1b : (m1 : Int) < 16 := by omega
           rw [← hm1] at ca HLOW hd1
           have HM1 := Box.mk hm1
           obtain ⟨x, hx'⟩ : ∃ x, x = dg q m := ⟨_, rfl⟩
           obtain ⟨u, hu⟩ : ∃ u, u = dg q m1 := ⟨_, rfl⟩
           rw [← hx'] at cx hd HLOW
           rw [← hu] at ca hd1 HLOW
           obtain ⟨h, hh⟩ : ∃ h, h = x / 2 := ⟨_, rfl⟩
           obtain ⟨v, hv⟩ : ∃ v, v = u % 2 := ⟨_, rfl⟩
           have ex : (x : Int) / 2 = (h : Int) := by omega
           have eu : (u : Int) % 2 = (v : Int) := by omega
           have hhb : (h : Int) < 32768 := by omega
           have hvb : (v : Int) < 2 := by omega
           rw [← hh, ← hv] at HLOW
           obtain ⟨z, hz⟩ : ∃ z, z = h + v * 32768 := ⟨_, rfl⟩
           rw [← hz] at HLOW
           have ev : (v : Int) * 32768 = ((v * 32768 : Nat) : Int) := by omega
           have hw1 : IntKind.i64.wrap ((v : Int) * 32768) = (v : Int) * 32768 := by rw [IntKind.wrap_i64]; omega
           have hw2 : IntKind.i64.wrap ((h : Int) + (v : Int) * 32768) = (z : Int) := by rw [IntKind.wrap_i64]; omega
           have hw3 : IntKind.i64.wrap (m1 : Int) = (m1 : Int) := by rw [IntKind.wrap_i64]; omega
           have HU := Box.mk hu; have HZ := Box.mk hz
           have HBEL := Box.mk hbel
           clear hlow hm1 hx' hu hh hv hz ev
           obtain ⟨W1, hW1⟩ : ∃ W, W = wr.setCell ⟨w.heap.size + 1 + 1, m, none⟩ (.int .i64 h) := ⟨_, rfl⟩
           go_upto_region 10 with (fail)
           rw [← hW1]
           have qa : W1.heap[w.heap.size]? = some (.cells (ncell (dg q)) 94 (0, 0)) := by rw [hW1, heap_setCell_other _ _ _ _ (by simp <;> omega)]; exact ha
           have qr : W1.heap[w.heap.size + 1]? = some (.cells (ncell f0) 94 (0, 0)) := by rw [hW1, heap_setCell_other _ _ _ _ (by simp <;> omega)]; exact hr
           have qx : W1.heap[w.heap.size + 2]? = some (.cells (ncell (upd (hfF q m) m h)) 94 (0, 0)) := by
             rw [hW1, heap_setCell_same _ _ _ _ _ _ hx, HSET.out _ h _ rfl]
           have qb : Below w.heap.size w W1 := by rw [hW1]; exact HBEL.out.setCell (by simp <;> omega) _
           have cx1 : W1.cell? ⟨w.heap.size + 2, m, none⟩ = some (.int .i64 (h : Nat)) := by rw [cell_of_row _ _ _ _ _ _ qx, ncell_get _ _ hml, upd_same]
           have zx1 : W1.frozen? ⟨w.heap.size + 2, m, none⟩ = false := frozen_of_row _ _ _ _ _ qx
           have ca1 : W1.cell? ⟨w.heap.size, m1, none⟩ = some (.int .i64 (u : Nat)) := by rw [cell_of_row _ _ _ _ _ _ qa, ncell_get _ _ (by omega), HU.out]
           have QA := Box.mk qa; have QR := Box.mk qr; have QX := Box.mk qx; have QB := Box.mk qb
           clear ha hr hx hbel cx zx ca HBEL hW1 qa qr qx qb ex
           go_still_tail 11, (by kernel_rfl)
           go_wp2
           refine ⟨⟨m + 1, by omega, by go_num, ?_, ?_, ?_, (QB.out.setCell (by simp <;> omega) _).drew⟩, by simp [intOf]; omega⟩
           · rw [heap_drew, heap_setCell_other _ _ _ _ (by simp <;> omega)]; exact QA.out
           · rw [heap_drew, heap_setCell_other _ _ _ _ (by simp <;> omega)]; exact QR.out
           · rw [heap_drew, heap_setCell_same _ _ _ _ _ _ QX.out, HSET.out _ z _ (by rw [HZ.out]; omega), upd_upd, ← HLOW.out, HST.out]
         · obtain rfl : m = 15 := by omega
           have htop := half_top q HQD.out
           have HTOP := Box.mk htop
           obtain ⟨x, hx'⟩ : ∃ x, x = dg q 15 := ⟨_, rfl⟩
           rw [← hx'] at cx hd HTOP
           obtain ⟨h, hh⟩ : ∃ h, h = x / 2 := ⟨_, rfl⟩
           have ex : (x : Int) / 2 = (h : Int) := by omega
           rw [← hh] at HTOP
           have HA := Box.mk ha; have HR := Box.mk hr; have HX := Box.mk hx; have HBEL := Box.mk hbel
           clear ha hr hx hbel htop hx' hh
           go_wp2_with fail
           refine ⟨⟨16, by omega, by go_num, ?_, ?_, ?_, HBEL.out.setCell (by simp <;> omega) _⟩, by simp [intOf] <;> omega⟩
           · rw [heap_setCell_other _ _ _ _ (by simp <;> omega)]; exact HA.out
           · rw [heap_setCell_other _ _ _ _ (by simp <;> omega)]; exact HR.out
           · rw [heap_setCell_same _ _ _ _ _ _ HX.out, HSET.out _ h _ rfl, ← HTOP.out, HST.out]
       · obtain rfl : m = 16 := by omega
         rw [hfF_all] at hx
         have HA := Box.mk ha; have HR := Box.mk hr; have HX := Box.mk hx; have HBEL := Box.mk hbel
         clear ha hr hx hbel
         go_wp2_with (first
           | ((with_reducible refine wpList_loadN rfl (.tmp 5) rfl (w.heap.size + 2) (dg (q / 2)) HX.out ?_ ?_); rfl)
           | ((with_reducible refine wpList_storeN rfl (.tmp 2) (.tmp 37) rfl w.heap.size (dg (q / 2)) (dg q) HA.out ?_ ?_ ?_); rfl; rfl))
         have hq2 : n / 2 ^ (j + 1) = q / 2 := by rw [HQ.out, Nat.pow_succ, Nat.div_div_eq_div_mul]
         refine ⟨⟨j + 1, by omega, by go_num, ?_, ?_, ?_, below_setRow HBEL.out (Nat.le_refl _) _⟩, by simp [intOf]; omega⟩
         · rw [hq2]; exact setRow_heap _ _ _ _ _ _ HA.out
         · rw [setRow_other _ _ _ _ (by omega)]; exact HR.out
         · rw [hq2, setRow_other _ _ _ _ (by omega)]; exact HX.out
   · obtain rfl : j = t := by omega
     go_wp2_with (first
       | ((with_reducible refine wpList_loadN rfl (.tmp 5) rfl (w.heap.size + 2) (dg (n / 2 ^ j)) HX.out ?_ ?_); rfl)
       | ((with_reducible refine wpList_storeN rfl (.tmp 4) (.tmp 38) rfl (w.heap.size + 1) (dg (n / 2 ^ j)) f0 HR.out ?_ ?_ ?_); rfl; rfl))
     go_frame
     refine bodyPost_ret (results_cell_row (p := 4) (ty := 94) rfl _ _ (w.heap.size + 1) 94 (ncell _) (0, 0) _ rfl (setRow_heap _ _ _ _ _ _ HR.out) Tryz.underlying94 rfl (by kernel_rfl)) rfl ⟨rfl, ?_⟩
     exact below_setRow HBEL.out (by omega) _
open Go Go.RowKit
theorem num_sbytes (n : Nat) : num (sbytes n) = n % 256 ^ 32 := leNat_leList 32 n
theorem sbytes_size (n : Nat) : (sbytes n).size = 32 := leList_length 32 n
theorem bytes_ext {a b : ByteArray} (h : a.data.toList = b.data.toList) : a = b := by
 cases a; cases b; simpa using Array.toList_inj.1 h
theorem bytes_inj {a b : ByteArray} (hs : a.size = b.size) (h : num a = num b) : a = b :=
 bytes_ext (leNat_inj _ _ (by simpa using hs) h)
theorem num_lt32 {s : ByteArray} (h : s.size = 32) : num s < 256 ^ 32 := by
 have := leNat_lt s.data.toList
 rwa [show s.data.toList.length = 32 from by rw [← h]; simp] at this
theorem sbytes_inj {x y : Nat} (hx : x < 256 ^ 32) (hy : y < 256 ^ 32) (h : sbytes x = sbytes y) : x = y := by
 have e := congrArg num h
 rwa [num_sbytes, num_sbytes, Nat.mod_eq_of_lt hx, Nat.mod_eq_of_lt hy] at e
theorem beq_toList (a b : ByteArray) : (a.toList == b.toList) = decide (a = b) := by
 rw [ByteArray.toList_eq, ByteArray.toList_eq, Bool.eq_iff_iff, beq_iff_eq, decide_eq_true_iff]
 exact ⟨bytes_ext, fun h => by rw [h]⟩
theorem seq_yes (s : ByteArray) : (s.toList == s.toList) = true := by simp
theorem seq_no {s t : ByteArray} (h : s ≠ t) : (s.toList == t.toList) = false := by rw [beq_toList, decide_eq_false h]
end Go.Proofs.YtafhncpaoolljaaGreat.Fe
