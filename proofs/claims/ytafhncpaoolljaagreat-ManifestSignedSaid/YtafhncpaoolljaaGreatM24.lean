/- The document's numbers: Roots. -/
import Derived.Test.YtafhncpaoolljaaGreatM23
namespace Go.Proofs.YtafhncpaoolljaaGreat.Fe
set_option maxRecDepth 100000
set_option linter.unusedVariables false
open Go Go.RowKit
def n5 : Nat := (fp - 5) / 2 ^ 3
def n1 : Nat := (fp - 1) / 2 ^ 2
def tryR (a : Nat) : Nat → Nat
 | 0 => a * (a ^ n5 % fp) % fp
 | k + 1 => tryR a k * (2 ^ n1 % fp) % fp
theorem tryR_dw (a k : Nat) : tryR a k < dw 16 := by cases k <;> exact mod_dw _
theorem tryR_lt (a k : Nat) : tryR a k < fp := by cases k <;> exact Nat.mod_lt _ fp_pos
def evenR (r : Nat) : Nat := if r % 2 = 1 then fp - r else r
def rtN (a : Nat) : Nat × Bool :=
 if tryR a 0 * tryR a 0 % fp = a then (evenR (tryR a 0), true)
 else if tryR a 1 * tryR a 1 % fp = a then (evenR (tryR a 1), true) else (0, false)
theorem rtN_hit {a k : Nat} (hk : k < 2) (h : tryR a k * tryR a k % fp = a) (h0 : ∀ j, j < k → tryR a j * tryR a j % fp ≠ a) : rtN a = (evenR (tryR a k), true) := by
 unfold rtN
 match k, hk with
 | 0, _ => rw [if_pos h]
 | 1, _ => rw [if_neg (h0 0 (by omega)), if_pos h]
theorem rtN_miss {a : Nat} (h0 : ∀ j, j < 2 → tryR a j * tryR a j % fp ≠ a) : rtN a = (0, false) := by
 unfold rtN
 rw [if_neg (h0 0 (by omega)), if_neg (h0 1 (by omega))]
theorem dw16_256 : dw 16 = 256 ^ 32 := by decide
theorem eqS_yes (x : Nat) : ((sbytes x).toList == (sbytes x).toList) = true := seq_yes _
theorem eqS_no {x y : Nat} (hx : x < dw 16) (hy : y < dw 16) (h : x ≠ y) : ((sbytes x).toList == (sbytes y).toList) = false :=
 seq_no fun e => h (sbytes_inj (by rwa [← dw16_256]) (by rwa [← dw16_256]) e)
theorem results_row_tmp {P : Program} {fn : Func} {p q : Tmp} {ty : TypeId} (h : fn.results = #[.cell p ty, .tmp q]) (tmps : Array Value) (w : World) (g : Nat) (t : TypeId) (cs : Array Value) (v : Value) (d : TypeDesc)
   (hp : tmps.getD p undef = .pointer (some ⟨g, 0, none⟩)) (hg : w.heap[g]? = some (.cells cs t (0, 0))) (hq : tmps.getD q undef = v)
   (hu : P.underlying ty = some d) (hd : (match d with | .struct _ | .array _ _ => true | _ => false) = true) (hi : (P.info? ty).map (·.size) = some cs.size) :
   (results fn tmps).run P w = .ok (.tuple #[.agg cs, v]) w := by
 have hp' : tmps[p]?.getD undef = .pointer (some ⟨g, 0, none⟩) := by simpa using hp
 have hq' : tmps[q]?.getD undef = v := by simpa using hq
 simp [results, h, hp', hq', asAddr, run_loadVar_row w g t ty cs (0, 0) d hg hu hd hi]
theorem n5_dw : n5 < dw 16 := Nat.lt_of_le_of_lt (Nat.div_le_self _ _) (Nat.lt_of_le_of_lt (Nat.sub_le _ _) fp_dw)
theorem half5D (w : World) : Calls Tryz.prog 131 #[.agg (ncell (dg (fp - 5))), .int .i64 3] w fun e w' => e = .returned (.agg (ncell (dg n5))) ∧ Gr w w' := halfD w (fp - 5) (Nat.lt_of_le_of_lt (Nat.sub_le _ _) fp_dw) 3 (by omega)
theorem half1D (w : World) : Calls Tryz.prog 131 #[.agg (ncell (dg (fp - 1))), .int .i64 2] w fun e w' => e = .returned (.agg (ncell (dg n1))) ∧ Gr w w' := halfD w (fp - 1) (Nat.lt_of_le_of_lt (Nat.sub_le _ _) fp_dw) 2 (by omega)
theorem times0D (w : World) (a : Nat) (ha : a < dw 16) : Calls Tryz.prog 76 #[.agg (ncell (dg a)), .agg (ncell (dg (a ^ n5 % fp)))] w fun e w' => e = .returned (.agg (ncell (dg (tryR a 0)))) ∧ Gr w w' := timesD w a _ ha (mod_dw _)
theorem n1_dw : n1 < dw 16 := Nat.lt_of_le_of_lt (Nat.div_le_self _ _) (Nat.lt_of_le_of_lt (Nat.sub_le _ _) fp_dw)
set_option maxRecDepth 100000 in
set_option maxHeartbeats 4000000 in
theorem rootsD (w : World) (a : Nat) (ha : a < fp) :
   Calls Tryz.prog 103 #[.agg (ncell (dg a))] w fun e w' => e = .returned (.tuple #[.agg (ncell (dg (rtN a).1)), .bool (rtN a).2]) ∧ Gr w w' := by
 have hz := zeroN
 have had : a < dw 16 := Nat.lt_trans ha fp_dw
 obtain ⟨W0, hW0⟩ : ∃ W, W = (w.alloc (.cells (ncell (dg a)) 94)).alloc (.cells (ncell f0) 94) := ⟨_, rfl⟩
 have g0 : W0.heap[w.heap.size]? = some (.cells (ncell (dg a)) 94 (0, 0)) := by rw [hW0, heap_alloc_old _ _ (by simp)]; exact heap_alloc_new _ _
 have g1 : W0.heap[w.heap.size + 1]? = some (.cells (ncell f0) 94 (0, 0)) := by
   have := heap_alloc_new (w.alloc (.cells (ncell (dg a)) 94)) (.cells (ncell f0) 94)
   rw [World.size_alloc] at this
   rw [hW0]; exact this
 have b0 : Below w.heap.size w W0 := by rw [hW0]; go_grown
 have GA := Box.mk g0; have GR := Box.mk g1; have B0 := Box.mk b0; have HA := Box.mk had
 obtain ⟨ba, hba⟩ : ∃ b, b = w.heap.size := ⟨_, rfl⟩
 obtain ⟨br, hbr⟩ : ∃ b, b = w.heap.size + 1 := ⟨_, rfl⟩
 rw [← hba] at GA; rw [← hbr] at GR
 have hge : w.heap.size ≤ ba := by omega
 have hgr : w.heap.size ≤ br := by omega
 have har : br = ba + 1 := by omega
 have HAR := Box.mk har
 clear g0 g1 b0 ha had har
 go_enter Tryz.func103, Tryz.ntmps103
 go_upto_region 1 with (fail)
 rw [← hW0, ← hbr, ← hba]
 clear hW0 hz hbr hba
 have GA0 := GA
 have GR0 := GR
 refine wp_region_seq 2 [.cha, .new (.cells (ncell f0) 94)] (by rfl) rfl (by decide) ?_
 simp only [List.take, List.zip, List.zipWith]
 refine gm_call [] (by kernel_rfl) rfl rfl Stb.tt (fun w1 hw1 _ => (pD w1).mono ?_)
 rintro e w2 ⟨rfl, hw2⟩
 refine ⟨_, rfl, hw2, ?_⟩
 try go_frame
 refine gm_alloc rfl (.cells (ncell f0) 94) (fun _ => by kernel_rfl) (fun bp hbp _ => ?_)
 try go_frame
 refine gm_nil ?_
 intro w7 hw7 hF7
 simp only [List.drop]
 try go_frame
 obtain ⟨W1, hWn⟩ : ∃ W, W = w7.setRow bp (ncell (dg fp)) := ⟨_, rfl⟩
 have HN := Box.mk hF7.2
 go_upto_region 2 with ((with_reducible refine wpList_storeN rfl (.tmp 4) (.tmp 9) rfl bp (dg fp) f0 HN.out ?_ ?_ ?_); rfl; rfl)
 try go_frame
 rw [← hWn]
 have hgn : Gr W0 W1 := by rw [hWn]; exact hw7.setRow hbp _
 replace GA := Box.mk (hgn.block GA.out)
 replace GR := Box.mk (hgn.block GR.out)
 have GP := Box.mk (show W1.heap[bp]? = some (.cells (ncell (dg fp)) 94 (0, 0)) from by rw [hWn]; exact setRow_heap _ _ _ _ _ _ HN.out)
 replace B0 := Box.mk (B0.out.trans (hgn.below.mono B0.out.size))
 have l_ba_bp : ba < bp := Nat.lt_of_lt_of_le (Gr.blt GA0.out) hbp
 have l_br_bp : br < bp := Nat.lt_of_lt_of_le (Gr.blt GR0.out) hbp
 clear hWn hgn HN hF7 hw7 hbp
 clear GA0 GR0
 have GA0 := GA
 have GR0 := GR
 have GP0 := GP
 refine wp_region_mix 5 [.flo, .cha, .cha, .cha, .new (.cells (ncell f0) 94)] (by kernel_rfl) (by kernel_rfl) rfl ?_
 simp only [List.take, List.zip, List.zipWith]
 refine gm_loadN (.tmp 4) rfl bp (dg fp) GP.out rfl ?_
 try go_frame
 refine gm_call [.int .i64 5] (by kernel_rfl) rfl rfl Stb.tt (fun w1 hw1 _ => (smallD w1 5 (by omega)).mono ?_)
 rintro e w2 ⟨rfl, hw2⟩
 refine ⟨_, rfl, hw2, ?_⟩
 try go_frame
 refine gm_call [.agg (ncell (dg (fp))), .agg (ncell (dg (5)))] (by kernel_rfl) rfl rfl Stb.tt (fun w1 hw1 _ => (lessD w1 fp 5 fp_dw five_le_fp).mono ?_)
 rintro e w2 ⟨rfl, hw2⟩
 refine ⟨_, rfl, hw2, ?_⟩
 try go_frame
 refine gm_call [.agg (ncell (dg (fp - 5))), .int .i64 3] (by kernel_rfl) rfl rfl Stb.tt (fun w1 hw1 _ => (half5D w1).mono ?_)
 rintro e w2 ⟨rfl, hw2⟩
 refine ⟨_, rfl, hw2, ?_⟩
 try go_frame
 refine gm_alloc rfl (.cells (ncell f0) 94) (fun _ => by kernel_rfl) (fun bn hbn _ => ?_)
 try go_frame
 refine gm_nil ?_
 intro w7 hw7 hF7
 simp only [List.drop]
 try go_frame
 obtain ⟨W2, hWn⟩ : ∃ W, W = w7.setRow bn (ncell (dg n5)) := ⟨_, rfl⟩
 have HN := Box.mk hF7.2
 go_upto_region 3 with ((with_reducible refine wpList_storeN rfl (.tmp 5) (.tmp 13) rfl bn (dg n5) f0 HN.out ?_ ?_ ?_); rfl; rfl)
 try go_frame
 rw [← hWn]
 have hgn : Gr W1.drew W2 := by rw [hWn]; exact hw7.setRow hbn _
 replace GA := Box.mk (hgn.block GA.out)
 replace GR := Box.mk (hgn.block GR.out)
 replace GP := Box.mk (hgn.block GP.out)
 have GN := Box.mk (show W2.heap[bn]? = some (.cells (ncell (dg n5)) 94 (0, 0)) from by rw [hWn]; exact setRow_heap _ _ _ _ _ _ HN.out)
 replace B0 := Box.mk (B0.out.drew.trans (hgn.below.mono B0.out.size))
 have l_ba_bn : ba < bn := Nat.lt_of_lt_of_le (Gr.blt GA0.out) hbn
 have l_br_bn : br < bn := Nat.lt_of_lt_of_le (Gr.blt GR0.out) hbn
 have l_bp_bn : bp < bn := Nat.lt_of_lt_of_le (Gr.blt GP0.out) hbn
 clear hWn hgn HN hF7 hw7 hbn
 clear GA0 GR0 GP0
 have GA0 := GA
 have GR0 := GR
 have GP0 := GP
 have GN0 := GN
 refine wp_region_mix 6 [.flo, .flo, .flo, .cha, .cha, .new (.cells (ncell f0) 94)] (by kernel_rfl) (by kernel_rfl) rfl ?_
 simp only [List.take, List.zip, List.zipWith]
 refine gm_loadN (.tmp 1) rfl ba (dg a) GA.out rfl ?_
 try go_frame
 refine gm_loadN (.tmp 1) rfl ba (dg a) GA.out rfl ?_
 try go_frame
 refine gm_loadN (.tmp 5) rfl bn (dg n5) GN.out rfl ?_
 try go_frame
 refine gm_call [.agg (ncell (dg (a))), .agg (ncell (dg (n5)))] (by kernel_rfl) rfl rfl Stb.tt (fun w1 hw1 _ => (powerD w1 a n5 HA.out n5_dw).mono ?_)
 rintro e w2 ⟨rfl, hw2⟩
 refine ⟨_, rfl, hw2, ?_⟩
 try go_frame
 refine gm_call [.agg (ncell (dg (a))), .agg (ncell (dg (a ^ n5 % fp)))] (by kernel_rfl) rfl rfl Stb.tt (fun w1 hw1 _ => (times0D w1 a HA.out).mono ?_)
 rintro e w2 ⟨rfl, hw2⟩
 refine ⟨_, rfl, hw2, ?_⟩
 try go_frame
 refine gm_alloc rfl (.cells (ncell f0) 94) (fun _ => by kernel_rfl) (fun bt hbt _ => ?_)
 try go_frame
 refine gm_nil ?_
 intro w7 hw7 hF7
 simp only [List.drop]
 try go_frame
 obtain ⟨W3, hWn⟩ : ∃ W, W = w7.setRow bt (ncell (dg (tryR a 0))) := ⟨_, rfl⟩
 have HN := Box.mk hF7.2
 go_upto_region 4 with ((with_reducible refine wpList_storeN rfl (.tmp 6) (.tmp 18) rfl bt (dg (tryR a 0)) f0 HN.out ?_ ?_ ?_); rfl; rfl)
 try go_frame
 rw [← hWn]
 have hgn : Gr W2.drew W3 := by rw [hWn]; exact hw7.setRow hbt _
 replace GA := Box.mk (hgn.block GA.out)
 replace GR := Box.mk (hgn.block GR.out)
 replace GP := Box.mk (hgn.block GP.out)
 replace GN := Box.mk (hgn.block GN.out)
 have GT := Box.mk (show W3.heap[bt]? = some (.cells (ncell (dg (tryR a 0))) 94 (0, 0)) from by rw [hWn]; exact setRow_heap _ _ _ _ _ _ HN.out)
 replace B0 := Box.mk (B0.out.drew.trans (hgn.below.mono B0.out.size))
 have l_ba_bt : ba < bt := Nat.lt_of_lt_of_le (Gr.blt GA0.out) hbt
 have l_br_bt : br < bt := Nat.lt_of_lt_of_le (Gr.blt GR0.out) hbt
 have l_bp_bt : bp < bt := Nat.lt_of_lt_of_le (Gr.blt GP0.out) hbt
 have l_bn_bt : bn < bt := Nat.lt_of_lt_of_le (Gr.blt GN0.out) hbt
 clear hWn hgn HN hF7 hw7 hbt
 clear GA0 GR0 GP0 GN0
 have GA0 := GA
 have GR0 := GR
 have GP0 := GP
 have GN0 := GN
 have GT0 := GT
 refine wp_region_mix 7 [.cha, .flo, .cha, .cha, .cha, .cha, .new (.cells (ncell f0) 94)] (by kernel_rfl) (by kernel_rfl) rfl ?_
 simp only [List.take, List.zip, List.zipWith]
 refine gm_call [.int .i64 2] (by kernel_rfl) rfl rfl Stb.tt (fun w1 hw1 _ => (smallD w1 2 (by omega)).mono ?_)
 rintro e w2 ⟨rfl, hw2⟩
 refine ⟨_, rfl, hw2, ?_⟩
 try go_frame
 refine gm_loadN (.tmp 4) rfl bp (dg fp) GP.out rfl ?_
 try go_frame
 refine gm_call [.int .i64 1] (by kernel_rfl) rfl rfl Stb.tt (fun w1 hw1 _ => (smallD w1 1 (by omega)).mono ?_)
 rintro e w2 ⟨rfl, hw2⟩
 refine ⟨_, rfl, hw2, ?_⟩
 try go_frame
 refine gm_call [.agg (ncell (dg (fp))), .agg (ncell (dg (1)))] (by kernel_rfl) rfl rfl Stb.tt (fun w1 hw1 _ => (lessD w1 fp 1 fp_dw fp_pos).mono ?_)
 rintro e w2 ⟨rfl, hw2⟩
 refine ⟨_, rfl, hw2, ?_⟩
 try go_frame
 refine gm_call [.agg (ncell (dg (fp - 1))), .int .i64 2] (by kernel_rfl) rfl rfl Stb.tt (fun w1 hw1 _ => (half1D w1).mono ?_)
 rintro e w2 ⟨rfl, hw2⟩
 refine ⟨_, rfl, hw2, ?_⟩
 try go_frame
 refine gm_call [.agg (ncell (dg (2))), .agg (ncell (dg (n1)))] (by kernel_rfl) rfl rfl Stb.tt (fun w1 hw1 _ => (powerD w1 2 n1 (Nat.lt_of_le_of_lt two_le_fp fp_dw) n1_dw).mono ?_)
 rintro e w2 ⟨rfl, hw2⟩
 refine ⟨_, rfl, hw2, ?_⟩
 try go_frame
 refine gm_alloc rfl (.cells (ncell f0) 94) (fun _ => by kernel_rfl) (fun bo hbo _ => ?_)
 try go_frame
 refine gm_nil ?_
 intro w7 hw7 hF7
 simp only [List.drop]
 try go_frame
 obtain ⟨W4, hWn⟩ : ∃ W, W = w7.setRow bo (ncell (dg (2 ^ n1 % fp))) := ⟨_, rfl⟩
 have HN := Box.mk hF7.2
 go_upto_region 5 with ((with_reducible refine wpList_storeN rfl (.tmp 7) (.tmp 24) rfl bo (dg (2 ^ n1 % fp)) f0 HN.out ?_ ?_ ?_); rfl; rfl)
 try go_frame
 rw [← hWn]
 have hgn : Gr W3.drew W4 := by rw [hWn]; exact hw7.setRow hbo _
 replace GA := Box.mk (hgn.block GA.out)
 replace GR := Box.mk (hgn.block GR.out)
 replace GP := Box.mk (hgn.block GP.out)
 replace GN := Box.mk (hgn.block GN.out)
 replace GT := Box.mk (hgn.block GT.out)
 have GO := Box.mk (show W4.heap[bo]? = some (.cells (ncell (dg (2 ^ n1 % fp))) 94 (0, 0)) from by rw [hWn]; exact setRow_heap _ _ _ _ _ _ HN.out)
 replace B0 := Box.mk (B0.out.drew.trans (hgn.below.mono B0.out.size))
 have l_ba_bo : ba < bo := Nat.lt_of_lt_of_le (Gr.blt GA0.out) hbo
 have l_br_bo : br < bo := Nat.lt_of_lt_of_le (Gr.blt GR0.out) hbo
 have l_bp_bo : bp < bo := Nat.lt_of_lt_of_le (Gr.blt GP0.out) hbo
 have l_bn_bo : bn < bo := Nat.lt_of_lt_of_le (Gr.blt GN0.out) hbo
 have l_bt_bo : bt < bo := Nat.lt_of_lt_of_le (Gr.blt GT0.out) hbo
 clear hWn hgn HN hF7 hw7 hbo
 clear GA0 GR0 GP0 GN0 GT0
 go_wp2_with fail
 go_loopw [8] (fun i wr => ∃ k : Nat, k ≤ 2 ∧ i = .int .i64 k ∧ (∀ j, j < k → tryR a j * tryR a j % fp ≠ a) ∧ wr.heap[ba]? = some (.cells (ncell (dg a)) 94 (0, 0)) ∧ wr.heap[br]? = some (.cells (ncell f0) 94 (0, 0)) ∧ wr.heap[bp]? = some (.cells (ncell (dg fp)) 94 (0, 0)) ∧ wr.heap[bo]? = some (.cells (ncell (dg (2 ^ n1 % fp))) 94 (0, 0)) ∧ wr.heap[bt]? = some (.cells (ncell (dg (tryR a k))) 94 (0, 0)) ∧ Below w.heap.size w wr) (fun i _ => (2 - intOf i).toNat)
 case atStart => exact ⟨0, by omega, rfl, fun j hj => by omega, GA.out, GR.out, GP.out, GO.out, GT.out, B0.out⟩
 case round =>
   clear GA GR GP GO GT GN B0
   obtain ⟨k, hk, rfl, hno, ga, gr, gp, go, gt, hb⟩ := hrel
   have GA := Box.mk ga; have GR := Box.mk gr; have GP := Box.mk gp; have GO := Box.mk go; have GT := Box.mk gt; have B0 := Box.mk hb; have HNO := Box.mk hno
   clear ga gr gp go gt hb hno
   by_cases hk2 : k < 2
   · have hkI : (k : Int) < 2 := by omega
     go_upto_region 8 with (fail)
     have SQ := Box.mk (mod_dw (tryR a k * tryR a k))
     by_cases hhit : tryR a k * tryR a k % fp = a
     ·
       refine wp_region_mix 6 [.flo, .flo, .cha, .cha, .flo, .cha] (by kernel_rfl) (by kernel_rfl) rfl ?_
       simp only [List.take, List.zip, List.zipWith]
       refine gm_loadN (.tmp 6) rfl bt (dg (tryR a k)) GT.out rfl ?_
       try go_frame
       refine gm_loadN (.tmp 6) rfl bt (dg (tryR a k)) GT.out rfl ?_
       try go_frame
       refine gm_call [.agg (ncell (dg (tryR a k))), .agg (ncell (dg (tryR a k)))] (by kernel_rfl) rfl rfl Stb.tt (fun w1 hw1 _ => (timesD w1 _ _ (tryR_dw a k) (tryR_dw a k)).mono ?_)
       rintro e w2 ⟨rfl, hw2⟩
       refine ⟨_, rfl, hw2, ?_⟩
       try go_frame
       refine gm_call [.agg (ncell (dg (tryR a k * tryR a k % fp)))] (by kernel_rfl) rfl rfl Stb.tt (fun w1 hw1 _ => (bytesD _ w1).mono ?_)
       rintro e w2 ⟨rfl, hw2⟩
       refine ⟨_, rfl, hw2, ?_⟩
       try go_frame
       refine gm_loadN (.tmp 1) rfl ba (dg a) GA.out rfl ?_
       try go_frame
       refine gm_call [.agg (ncell (dg (a)))] (by kernel_rfl) rfl rfl Stb.tt (fun w1 hw1 _ => (bytesD _ w1).mono ?_)
       rintro e w2 ⟨rfl, hw2⟩
       refine ⟨_, rfl, hw2, ?_⟩
       try go_frame
       refine gm_nil ?_
       intro w7 hw7 _
       simp only [List.drop]
       try go_frame
       replace GA := Box.mk (hw7.block GA.out); replace GR := Box.mk (hw7.block GR.out); replace GP := Box.mk (hw7.block GP.out); replace GO := Box.mk (hw7.block GO.out); replace GT := Box.mk (hw7.block GT.out); replace B0 := Box.mk (B0.out.drew.trans (hw7.below.mono B0.out.size))
       clear hw7
       have heq := eqS_yes a
       rw [hhit]
       have HHIT := Box.mk hhit
       have hkey := rtN_hit hk2 HHIT.out HNO.out
       have HKEY := Box.mk hkey
       clear hhit hkey
       have ct : w7.cell? ⟨bt, 0, none⟩ = some (.int .i64 (dg (tryR a k) 0 : Nat)) := by rw [cell_of_row _ _ _ _ _ _ GT.out]; exact ncell_get _ _ (by omega)
       have hdt := dg_dig (tryR a k) 0 (by omega)
       have hpar : dg (tryR a k) 0 % 2 = tryR a k % 2 := by rw [dg_eq]; simp only [Nat.mul_zero, Nat.pow_zero, Nat.div_one]; omega
       obtain ⟨x, hx⟩ : ∃ x, x = dg (tryR a k) 0 := ⟨_, rfl⟩
       rw [← hx] at ct hdt hpar
       have HP := Box.mk hpar
       obtain ⟨y, hy⟩ : ∃ y, y = x % 2 := ⟨_, rfl⟩
       have hyI : (x : Int) % 2 = (y : Int) := by omega
       have hy2 : y = 0 ∨ y = 1 := by omega
       rw [← hy] at HP
       clear hx hpar hy
       rcases hy2 with rfl | rfl
       · replace HKEY := Box.mk (show rtN a = (tryR a k, true) from by rw [HKEY.out]; unfold evenR; rw [if_neg (by have := HP.out; omega)])
         go_wp2_with (first
           | ((with_reducible refine wpList_loadN rfl (.tmp 6) rfl bt (dg (tryR a k)) GT.out ?_ ?_); rfl)
           | ((with_reducible refine wpList_storeN rfl (.tmp 2) (.tmp 43) rfl br (dg (tryR a k)) f0 GR.out ?_ ?_ ?_); rfl; rfl))
         refine bodyPost_ret (results_row_tmp (p := 2) (q := 3) (ty := 94) rfl _ _ br 94 (ncell _) (.bool true) _ rfl (setRow_heap _ _ _ _ _ _ GR.out) rfl Tryz.underlying94 rfl (by kernel_rfl)) rfl ⟨by rw [HKEY.out], ?_⟩
         exact below_setRow B0.out hgr _
       · replace HKEY := Box.mk (show rtN a = (fp - tryR a k, true) from by rw [HKEY.out]; unfold evenR; rw [if_pos (by have := HP.out; omega)])
         go_wp2_with (first
           | ((with_reducible refine wpList_loadN rfl (.tmp 4) rfl bp (dg fp) GP.out ?_ ?_); rfl)
           | ((with_reducible refine wpList_loadN rfl (.tmp 6) rfl bt (dg (tryR a k)) GT.out ?_ ?_); rfl))
         refine (lessD _ fp (tryR a k) fp_dw (Nat.le_of_lt (tryR_lt a k))).mono ?_
         rintro e w8 ⟨rfl, hg⟩
         replace GR := Box.mk (hg.block GR.out); replace GT := Box.mk (hg.block GT.out); replace B0 := Box.mk (B0.out.trans (hg.below.mono B0.out.size))
         clear hg
         obtain ⟨W9, hW9⟩ : ∃ W, W = w8.setRow bt (ncell (dg (fp - tryR a k))) := ⟨_, rfl⟩
         go_upto_region 11 with ((with_reducible refine wpList_storeN rfl (.tmp 6) (.tmp 42) rfl bt (dg (fp - tryR a k)) (dg (tryR a k)) GT.out ?_ ?_ ?_); rfl; rfl)
         try go_frame
         rw [← hW9]
         replace GT := Box.mk (show W9.heap[bt]? = some (.cells (ncell (dg (fp - tryR a k))) 94 (0, 0)) from by rw [hW9]; exact setRow_heap _ _ _ _ _ _ GT.out)
         replace GR := Box.mk (show W9.heap[br]? = some (.cells (ncell f0) 94 (0, 0)) from by rw [hW9, setRow_other _ _ _ _ (by omega)]; exact GR.out)
         replace B0 := Box.mk (show Below w.heap.size w W9 from by rw [hW9]; exact below_setRow B0.out (by omega) _)
         clear hW9
         go_wp2_with (first
           | ((with_reducible refine wpList_loadN rfl (.tmp 6) rfl bt (dg (fp - tryR a k)) GT.out ?_ ?_); rfl)
           | ((with_reducible refine wpList_storeN rfl (.tmp 2) (.tmp 43) rfl br (dg (fp - tryR a k)) f0 GR.out ?_ ?_ ?_); rfl; rfl))
         refine bodyPost_ret (results_row_tmp (p := 2) (q := 3) (ty := 94) rfl _ _ br 94 (ncell _) (.bool true) _ rfl (setRow_heap _ _ _ _ _ _ GR.out) rfl Tryz.underlying94 rfl (by kernel_rfl)) rfl ⟨by rw [HKEY.out], ?_⟩
         exact below_setRow B0.out hgr _
     ·
       refine wp_region_mix 6 [.flo, .flo, .cha, .cha, .flo, .cha] (by kernel_rfl) (by kernel_rfl) rfl ?_
       simp only [List.take, List.zip, List.zipWith]
       refine gm_loadN (.tmp 6) rfl bt (dg (tryR a k)) GT.out rfl ?_
       try go_frame
       refine gm_loadN (.tmp 6) rfl bt (dg (tryR a k)) GT.out rfl ?_
       try go_frame
       refine gm_call [.agg (ncell (dg (tryR a k))), .agg (ncell (dg (tryR a k)))] (by kernel_rfl) rfl rfl Stb.tt (fun w1 hw1 _ => (timesD w1 _ _ (tryR_dw a k) (tryR_dw a k)).mono ?_)
       rintro e w2 ⟨rfl, hw2⟩
       refine ⟨_, rfl, hw2, ?_⟩
       try go_frame
       refine gm_call [.agg (ncell (dg (tryR a k * tryR a k % fp)))] (by kernel_rfl) rfl rfl Stb.tt (fun w1 hw1 _ => (bytesD _ w1).mono ?_)
       rintro e w2 ⟨rfl, hw2⟩
       refine ⟨_, rfl, hw2, ?_⟩
       try go_frame
       refine gm_loadN (.tmp 1) rfl ba (dg a) GA.out rfl ?_
       try go_frame
       refine gm_call [.agg (ncell (dg (a)))] (by kernel_rfl) rfl rfl Stb.tt (fun w1 hw1 _ => (bytesD _ w1).mono ?_)
       rintro e w2 ⟨rfl, hw2⟩
       refine ⟨_, rfl, hw2, ?_⟩
       try go_frame
       refine gm_nil ?_
       intro w7 hw7 _
       simp only [List.drop]
       try go_frame
       replace GA := Box.mk (hw7.block GA.out); replace GR := Box.mk (hw7.block GR.out); replace GP := Box.mk (hw7.block GP.out); replace GO := Box.mk (hw7.block GO.out); replace GT := Box.mk (hw7.block GT.out); replace B0 := Box.mk (B0.out.drew.trans (hw7.below.mono B0.out.size))
       clear hw7
       have heq := eqS_no SQ.out HA.out hhit
       have HHIT := Box.mk hhit
       clear hhit
       go_wp2_with (first
         | ((with_reducible refine wpList_loadN rfl (.tmp 6) rfl bt (dg (tryR a k)) GT.out ?_ ?_); rfl)
         | ((with_reducible refine wpList_loadN rfl (.tmp 7) rfl bo (dg (2 ^ n1 % fp)) GO.out ?_ ?_); rfl))
       refine (timesD _ _ _ (tryR_dw a k) (mod_dw _)).mono ?_
       rintro e w8 ⟨rfl, hg⟩
       replace GA := Box.mk (hg.block GA.out); replace GR := Box.mk (hg.block GR.out); replace GP := Box.mk (hg.block GP.out); replace GO := Box.mk (hg.block GO.out); replace GT := Box.mk (hg.block GT.out); replace B0 := Box.mk (B0.out.trans (hg.below.mono B0.out.size))
       obtain ⟨v, hv⟩ : ∃ v, v = tryR a k * (2 ^ n1 % fp) % fp := ⟨_, rfl⟩
       rw [← hv]
       replace hv : tryR a (k + 1) = v := hv.symm
       have HV := Box.mk hv
       clear hg heq hv
       go_wp2_with ((with_reducible refine wpList_storeN rfl (.tmp 6) (.tmp 46) rfl bt (dg v) (dg (tryR a k)) GT.out ?_ ?_ ?_); rfl; rfl)
       refine ⟨⟨k + 1, by omega, by go_num, ?_, ?_, ?_, ?_, ?_, ?_, below_setRow B0.out (by omega) _⟩, by simp [intOf]; omega⟩
       · intro j hj
         by_cases hjk : j = k
         · subst hjk; exact HHIT.out
         · exact HNO.out j (by omega)
       · rw [setRow_other _ _ _ _ (by have := HAR.out; omega)]; exact GA.out
       · rw [setRow_other _ _ _ _ (by omega)]; exact GR.out
       · rw [setRow_other _ _ _ _ (by omega)]; exact GP.out
       · rw [setRow_other _ _ _ _ (by omega)]; exact GO.out
       · rw [HV.out]; exact setRow_heap _ _ _ _ _ _ GT.out
   · obtain rfl : k = 2 := by omega
     have hkey := rtN_miss HNO.out
     have HKEY := Box.mk hkey
     clear hkey
     have hz := zeroN
     go_wp2_with ((with_reducible refine wpList_storeN rfl (.tmp 2) (.tmp 47) rfl br f0 f0 GR.out ?_ ?_ ?_); rfl; rfl)
     have e0 : ncell f0 = ncell (dg 0) := ncell_congr fun j _ => by rw [dg_eq]; simp [f0]
     refine bodyPost_ret (results_row_tmp (p := 2) (q := 3) (ty := 94) rfl _ _ br 94 (ncell _) (.bool false) _ rfl (setRow_heap _ _ _ _ _ _ GR.out) rfl Tryz.underlying94 rfl (by kernel_rfl)) rfl ⟨by rw [HKEY.out, e0], ?_⟩
     exact below_setRow B0.out hgr _
end Go.Proofs.YtafhncpaoolljaaGreat.Fe
