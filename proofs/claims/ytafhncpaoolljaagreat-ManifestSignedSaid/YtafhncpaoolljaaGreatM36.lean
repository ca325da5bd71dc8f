/- The document of the package curve: a point of bytes. -/
import Derived.Test.YtafhncpaoolljaaGreatM35
import Derived.Test.YtafhncpaoolljaaGreatM31
namespace Go.Proofs.YtafhncpaoolljaaGreat.Fe
set_option maxRecDepth 100000
set_option linter.unusedVariables false
open Go Go.RowKit
theorem wpList_loadNG {ops : Array Oper} {rest : List Oper} {o : Oper} {a : Act} {w : World} {Q : Exit → Act → World → Prop} (x : Operand) (ho : o.op = .load 94 x)
   (g : Nat) (f : Nat → Nat) (hg : w.heap[g]? = some (.cells (ncell f) 94 (0, 0))) (hwd : Region.wanted o (yielded ops a.tmps) = true) (hx : a.eval x = .pointer (some ⟨g, 0, none⟩))
   (h : wpList Tryz.prog ops Q rest (a.put o.dst (.agg (ncell f))) w) : wpList Tryz.prog ops Q (o :: rest) a w :=
 wpList_step fun K hK => by rw [if_pos hwd]; exact wp_load_row 94 x ho g hx 94 (ncell f) (0, 0) _ hg Tryz.underlying94 rfl (by kernel_rfl) (hK _ _ h)
theorem run_sub128 (q : Nat) (hq : q < 256) (h : 128 ≤ q) (w : World) : (binOp .sub 5 (.int .u8 (q : Int)) (.int .u8 128)).run Tryz.prog w = .ok (.int .u8 ((q % 128 : Nat) : Int)) w := by
 have e : IntKind.u8.wrap ((q : Int) - 128) = ((q % 128 : Nat) : Int) := by
   rw [IntKind.wrap_u8]; omega
 rw [← e]; rfl
def rX (Y : F) (b : Nat) : F := if b = 1 then 0 - fv (rtN (xxOf Y).val).1 else fv (rtN (xxOf Y).val).1
theorem rt_sq {Y : F} (h : (rtN (xxOf Y).val).2 = true) : fv (rtN (xxOf Y).val).1 * fv (rtN (xxOf Y).val).1 = xxOf Y := by
 rw [← fv_mul]; refine Fin.ext ?_; rw [fv_val]; exact root_back h
theorem rt_val (Y : F) : (fv (rtN (xxOf Y).val).1).val = (rtN (xxOf Y).val).1 := by rw [fv_val]; exact Nat.mod_eq_of_lt (rt_lt _)
theorem mk_pt {s : ByteArray} (hs : s.size = 32) {x Y : F} (hY : Y.val = Go.Proofs.YtafhncpaoolljaaGreat.num s % 2 ^ 255) (h : x * x = xxOf Y) (hp : x.val % 2 = Go.Proofs.YtafhncpaoolljaaGreat.num s / 2 ^ 255) : ∃ p, encP p = s ∧ Rep x Y 1 p :=
 ⟨⟨x, Y, on_of_xx h⟩, (enc_iff _ hs).2 ⟨hY, hp⟩, one_ne, by show x = x * 1; grind, by show Y = Y * 1; grind⟩
theorem neg_sq' (x : F) : (0 - x) * (0 - x) = x * x := by grind
theorem sub_neg' (x : F) : 0 - x = -x := by grind
theorem rparse_ok {s : ByteArray} (hs : s.size = 32) {Y : F} (hY : Y.val = Go.Proofs.YtafhncpaoolljaaGreat.num s % 2 ^ 255) (h : (rtN (xxOf Y).val).2 = true) (b : Nat) (hb : Go.Proofs.YtafhncpaoolljaaGreat.num s / 2 ^ 255 = b) (hlt : b < 2) (hz : b = 1 → fv (rtN (xxOf Y).val).1 ≠ 0) : ∃ p, encP p = s ∧ Rep (rX Y b) Y 1 p := by
 have h1 := rt_sq h
 have h2 : (fv (rtN (xxOf Y).val).1).val % 2 = 0 := by rw [rt_val]; exact rt_parity _
 unfold rX
 generalize fv (rtN (xxOf Y).val).1 = x at h1 h2 hz ⊢
 split
 · rename_i hb1
   refine mk_pt hs hY ((neg_sq' x).trans h1) ?_
   rw [sub_neg', neg_parity (hz hb1), h2, hb, hb1]
 · refine mk_pt hs hY h1 ?_
   rw [h2, hb]; omega
theorem rparse_no {s : ByteArray} (hs : s.size = 32) {Y : F} (hY : Y.val = Go.Proofs.YtafhncpaoolljaaGreat.num s % 2 ^ 255) (h : (rtN (xxOf Y).val).2 = true) (hb : Go.Proofs.YtafhncpaoolljaaGreat.num s / 2 ^ 255 = 1) (hz : fv (rtN (xxOf Y).val).1 = 0) : NoP s := fun p hp => by
 have h1 := (enc_iff p hs).1 hp
 have e : p.y = Y := Fin.ext (h1.1.trans hY.symm)
 have h3 := rt_sq h
 have h4 := xx_of_on p.on
 rw [e, ← h3, hz] at h4
 have h5 : p.x = 0 := (f_mul_zero (by rw [h4]; grind)).elim id id
 rw [h5, hb] at h1
 simp at h1
set_option maxRecDepth 100000 in
set_option maxHeartbeats 8000000 in
theorem rparse_at (s : ByteArray) (w : World) : Calls Tryz.prog 70 #[.string s] w fun e w' => ∃ ok x y z, e = .returned (.tuple #[.agg (qcell x y z), .bool ok]) ∧ ((ok = true ∧ ∃ p X Y, encP p = s ∧ Rep X Y 1 p ∧ x = qd X ∧ y = qd Y ∧ z = qd 1) ∨ (ok = false ∧ NoP s)) ∧ Gr w w' := by
 have hz := zeroQ
 obtain ⟨W0, hW0⟩ : ∃ W, W = w.alloc (.cells (qcell f0 f0 f0) 96) := ⟨_, rfl⟩
 have g0 : W0.heap[w.heap.size]? = some (.cells (qcell f0 f0 f0) 96 (0, 0)) := by rw [hW0]; exact heap_alloc_new _ _
 have GR := Box.mk g0; have B0 := Box.mk (show Gr w W0 from by rw [hW0]; exact Gr.alloc _ _)
 clear g0
 obtain ⟨br, hbr⟩ : ∃ b, b = w.heap.size := ⟨_, rfl⟩
 have nb_br : w.heap.size ≤ br := by omega
 rw [← hbr] at GR
 by_cases hs : s.size = 32
 ·
   have hsI : (s.size : Int) = 32 := by omega
   have hlt : 31 < s.size := by omega
   have HS := Box.mk hs
   obtain ⟨q, hq⟩ : ∃ q, q = s[31].toNat := ⟨_, rfl⟩
   have HQ := Box.mk hq
   clear hq
   go_enter Tryz.func70, Tryz.ntmps70
   go_upto_region 1 with (fail)
   rw [← hW0, ← hbr]
   clear hW0 hz hbr
   go_upto_region 4 with (fail)
   obtain ⟨od, hod⟩ : ∃ od, od = decide ((128 : Int) ≤ (s[31].toNat : Int)) := ⟨_, rfl⟩
   rw [← hod]
   have OD := Box.mk (show od = decide (128 ≤ q) from by rw [hod, HQ.out]; congr 1; rw [eq_iff_iff]; omega)
   have SG := Box.mk (show Go.Proofs.YtafhncpaoolljaaGreat.num s / 2 ^ 255 = q / 128 from by rw [HQ.out]; exact sgn_byte HS.out)
   have hq8 : q < 256 := by rw [HQ.out]; exact s[31].toNat_lt
   clear hod
   cases od
   ·
     have hq1 : q < 128 := by have := OD.out; simpa using this
     have NB := Box.mk (show Go.Proofs.YtafhncpaoolljaaGreat.num s / 2 ^ 255 = 0 from by rw [SG.out]; omega)
     have HT := Box.mk HS.out
     have VT := Box.mk (show Go.Proofs.YtafhncpaoolljaaGreat.num s = Go.Proofs.YtafhncpaoolljaaGreat.num s % 2 ^ 255 from by have := NB.out; omega)
     cases hel : elB s
     ·
       have hno : NoP s := no_big HS.out (by rw [elB_eq, ← VT.out] at *; have h1 := of_decide_eq_false hel; have := HT.out; omega)
       have HN := Box.mk hno
       have HIS := Box.mk (fun v => hel ▸ qis s HT.out v)
       clear hel hno
       go_wp2_with fail
       refine (HIS.out _).mono ?_
       rintro e w7 ⟨rfl, hg⟩
       replace GR := Box.mk (hg.block GR.out); replace B0 := Box.mk (B0.out.trans hg)
       clear hg HIS
       go_upto_region 8 with (fail)
       try go_frame
       refine wp_region_seq 1 [.flo] (by rfl) rfl (by decide) ?_
       simp only [List.take, List.zip, List.zipWith]
       refine gm_build [] rfl rfl _ qbuild0 ?_
       try go_frame
       refine gm_nil ?_
       intro u1 hw7 hF7
       simp only [List.drop]
       try go_frame
       have GR' := hw7.block GR.out
       have gb : Gr w u1 := B0.out.trans hw7
       replace GR := Box.mk (show u1.heap[br]? = some (.cells (qcell f0 f0 f0) 96 (0, 0)) from GR')
       replace B0 := Box.mk (show Gr w u1 from gb)
       clear gb hF7 hw7 GR'
       go_wp2_with ((with_reducible refine wpList_storeQ rfl (.tmp 2) (.tmp 31) rfl br f0 f0 f0 (qcell f0 f0 f0) rfl GR.out ?_ ?_ ?_); rfl; rfl)
       exact bodyPost_ret (results_row_tmp (p := 2) (q := 3) (ty := 96) rfl _ _ br 96 (qcell f0 f0 f0) _ _ rfl (setRow_heap _ _ _ _ _ _ GR.out) rfl Tryz.underlying96 rfl (by kernel_rfl)) rfl ⟨false, f0, f0, f0, rfl, .inr ⟨rfl, HN.out⟩, B0.out.setRow nb_br _⟩
     ·
       have hlt' : Go.Proofs.YtafhncpaoolljaaGreat.num s < fp := by rw [elB_eq] at hel; exact (of_decide_eq_true hel).2
       have HIS := Box.mk (fun v => hel ▸ qis s HT.out v)
       obtain ⟨Y, hY⟩ : ∃ Y, Y = fv (Go.Proofs.YtafhncpaoolljaaGreat.num s) := ⟨_, rfl⟩
       have YV := Box.mk (show Y.val = Go.Proofs.YtafhncpaoolljaaGreat.num s % 2 ^ 255 from by rw [hY, fv_val, Nat.mod_eq_of_lt hlt']; exact VT.out)
       have HNUM := Box.mk (fun v => hY ▸ qnum s HT.out v)
       clear hel hlt' hY
       go_wp2_with fail
       refine (HIS.out _).mono ?_
       rintro e w7 ⟨rfl, hg⟩
       replace GR := Box.mk (hg.block GR.out); replace B0 := Box.mk (B0.out.trans hg)
       clear hg HIS
       go_upto_region 9 with (fail)
       try go_frame
       refine wp_region_seq 3 [.flo, .cha, .new (.cells (ncell (f0)) 94)] (by rfl) rfl (by decide) ?_
       simp only [List.take, List.zip, List.zipWith]
       refine gm_move (.tmp 5) (.inl rfl) (.string s) rfl ?_
       try go_frame
       refine gm_call [.string s] (by kernel_rfl) rfl rfl Stb.tt (fun w1 hw1 _ => (HNUM.out w1).mono ?_)
       rintro e w2 ⟨rfl, hw2⟩
       refine ⟨_, rfl, hw2, ?_⟩
       try go_frame
       refine gm_alloc rfl (.cells (ncell (f0)) 94) (fun _ => by kernel_rfl) (fun bY hbY hnbY => ?_)
       try go_frame
       refine gm_nil ?_
       intro u2 hw7 hF7
       simp only [List.drop]
       try go_frame
       have ne_br_bY : br ≠ bY := Nat.ne_of_lt (Nat.lt_of_lt_of_le (Gr.blt GR.out) hbY)
       have nb_bY : w.heap.size ≤ bY := Nat.le_trans B0.out.size hbY
       have GR' := hw7.block GR.out
       have GY' : u2.heap[bY]? = some (.cells (ncell (f0)) 94 (0, 0)) := hF7.2
       have gb : Gr w u2 := B0.out.trans hw7
       have HN0 := Box.mk GY'
       have GR'' := show ((u2.setRow bY (ncell (qd Y)))).heap[br]? = _ from (setRow_other _ _ _ _ (by first | exact ne_br_bY | exact Ne.symm ne_bY_br)).trans GR'
       have GY'' := show ((u2.setRow bY (ncell (qd Y)))).heap[bY]? = some (.cells (ncell (qd Y)) 94 (0, 0)) from setRow_heap _ _ _ _ _ _ GY'
       replace gb := gb.setRow (nb_bY) (ncell (qd Y))
       obtain ⟨V2, hWn⟩ : ∃ W, W = (u2.setRow bY (ncell (qd Y))) := ⟨_, rfl⟩
       replace GR := Box.mk (show V2.heap[br]? = some (.cells (qcell f0 f0 f0) 96 (0, 0)) from hWn ▸ GR'')
       have GY := Box.mk (show V2.heap[bY]? = some (.cells (ncell (qd Y)) 94 (0, 0)) from hWn ▸ GY'')
       replace B0 := Box.mk (show Gr w V2 from hWn ▸ gb)
       clear gb hF7 hw7 GR' GR'' GY' GY'' hbY hnbY
       go_upto_region 10 with (((with_reducible refine wpList_storeN rfl (.tmp 6) (.tmp 33) rfl bY (qd Y) (f0) HN0.out ?_ ?_ ?_); rfl; rfl))
       try go_frame
       rw [← hWn]
       clear hWn HN0
       refine wp_region_seq 4 [.flo, .flo, .cha, .new (.cells (ncell (f0)) 94)] (by rfl) rfl (by decide) ?_
       simp only [List.take, List.zip, List.zipWith]
       refine gm_loadN (.tmp 6) rfl bY (qd Y) GY.out rfl ?_
       try go_frame
       refine gm_loadN (.tmp 6) rfl bY (qd Y) GY.out rfl ?_
       try go_frame
       refine gm_call [.agg (ncell (qd Y)), .agg (ncell (qd Y))] (by kernel_rfl) rfl rfl Stb.tt (fun w1 hw1 _ => (qtimes Y Y w1).mono ?_)
       rintro e w2 ⟨rfl, hw2⟩
       refine ⟨_, rfl, hw2, ?_⟩
       try go_frame
       refine gm_alloc rfl (.cells (ncell (f0)) 94) (fun _ => by kernel_rfl) (fun bS hbS hnbS => ?_)
       try go_frame
       refine gm_nil ?_
       intro u3 hw7 hF7
       simp only [List.drop]
       try go_frame
       have ne_br_bS : br ≠ bS := Nat.ne_of_lt (Nat.lt_of_lt_of_le (Gr.blt GR.out) hbS)
       have ne_bY_bS : bY ≠ bS := Nat.ne_of_lt (Nat.lt_of_lt_of_le (Gr.blt GY.out) hbS)
       have nb_bS : w.heap.size ≤ bS := Nat.le_trans B0.out.size hbS
       have GR' := hw7.block GR.out
       have GY' := hw7.block GY.out
       have GS' : u3.heap[bS]? = some (.cells (ncell (f0)) 94 (0, 0)) := hF7.2
       have gb : Gr w u3 := B0.out.trans hw7
       have HN0 := Box.mk GS'
       have GR'' := show ((u3.setRow bS (ncell (qd (Y * Y))))).heap[br]? = _ from (setRow_other _ _ _ _ (by first | exact ne_br_bS | exact Ne.symm ne_bS_br)).trans GR'
       have GY'' := show ((u3.setRow bS (ncell (qd (Y * Y))))).heap[bY]? = _ from (setRow_other _ _ _ _ (by first | exact ne_bY_bS | exact Ne.symm ne_bS_bY)).trans GY'
       have GS'' := show ((u3.setRow bS (ncell (qd (Y * Y))))).heap[bS]? = some (.cells (ncell (qd (Y * Y))) 94 (0, 0)) from setRow_heap _ _ _ _ _ _ GS'
       replace gb := gb.setRow (nb_bS) (ncell (qd (Y * Y)))
       obtain ⟨V3, hWn⟩ : ∃ W, W = (u3.setRow bS (ncell (qd (Y * Y)))) := ⟨_, rfl⟩
       replace GR := Box.mk (show V3.heap[br]? = some (.cells (qcell f0 f0 f0) 96 (0, 0)) from hWn ▸ GR'')
       replace GY := Box.mk (show V3.heap[bY]? = some (.cells (ncell (qd Y)) 94 (0, 0)) from hWn ▸ GY'')
       have GS := Box.mk (show V3.heap[bS]? = some (.cells (ncell (qd (Y * Y))) 94 (0, 0)) from hWn ▸ GS'')
       replace B0 := Box.mk (show Gr w V3 from hWn ▸ gb)
       clear gb hF7 hw7 GR' GR'' GY' GY'' GS' GS'' hbS hnbS
       go_upto_region 11 with (((with_reducible refine wpList_storeN rfl (.tmp 7) (.tmp 36) rfl bS (qd (Y * Y)) (f0) HN0.out ?_ ?_ ?_); rfl; rfl))
       try go_frame
       rw [← hWn]
       clear hWn HN0
       refine wp_region_seq 2 [.cha, .new (.cells (ncell (f0)) 94)] (by rfl) rfl (by decide) ?_
       simp only [List.take, List.zip, List.zipWith]
       refine gm_call [.int .i64 1] (by kernel_rfl) rfl rfl Stb.tt (fun w1 hw1 _ => (qsmall1 w1).mono ?_)
       rintro e w2 ⟨rfl, hw2⟩
       refine ⟨_, rfl, hw2, ?_⟩
       try go_frame
       refine gm_alloc rfl (.cells (ncell (f0)) 94) (fun _ => by kernel_rfl) (fun bI hbI hnbI => ?_)
       try go_frame
       refine gm_nil ?_
       intro u4 hw7 hF7
       simp only [List.drop]
       try go_frame
       have ne_br_bI : br ≠ bI := Nat.ne_of_lt (Nat.lt_of_lt_of_le (Gr.blt GR.out) hbI)
       have ne_bY_bI : bY ≠ bI := Nat.ne_of_lt (Nat.lt_of_lt_of_le (Gr.blt GY.out) hbI)
       have ne_bS_bI : bS ≠ bI := Nat.ne_of_lt (Nat.lt_of_lt_of_le (Gr.blt GS.out) hbI)
       have nb_bI : w.heap.size ≤ bI := Nat.le_trans B0.out.size hbI
       have GR' := hw7.block GR.out
       have GY' := hw7.block GY.out
       have GS' := hw7.block GS.out
       have GI' : u4.heap[bI]? = some (.cells (ncell (f0)) 94 (0, 0)) := hF7.2
       have gb : Gr w u4 := B0.out.trans hw7
       have HN0 := Box.mk GI'
       have GR'' := show ((u4.setRow bI (ncell (qd 1)))).heap[br]? = _ from (setRow_other _ _ _ _ (by first | exact ne_br_bI | exact Ne.symm ne_bI_br)).trans GR'
       have GY'' := show ((u4.setRow bI (ncell (qd 1)))).heap[bY]? = _ from (setRow_other _ _ _ _ (by first | exact ne_bY_bI | exact Ne.symm ne_bI_bY)).trans GY'
       have GS'' := show ((u4.setRow bI (ncell (qd 1)))).heap[bS]? = _ from (setRow_other _ _ _ _ (by first | exact ne_bS_bI | exact Ne.symm ne_bI_bS)).trans GS'
       have GI'' := show ((u4.setRow bI (ncell (qd 1)))).heap[bI]? = some (.cells (ncell (qd 1)) 94 (0, 0)) from setRow_heap _ _ _ _ _ _ GI'
       replace gb := gb.setRow (nb_bI) (ncell (qd 1))
       obtain ⟨V4, hWn⟩ : ∃ W, W = (u4.setRow bI (ncell (qd 1))) := ⟨_, rfl⟩
       replace GR := Box.mk (show V4.heap[br]? = some (.cells (qcell f0 f0 f0) 96 (0, 0)) from hWn ▸ GR'')
       replace GY := Box.mk (show V4.heap[bY]? = some (.cells (ncell (qd Y)) 94 (0, 0)) from hWn ▸ GY'')
       replace GS := Box.mk (show V4.heap[bS]? = some (.cells (ncell (qd (Y * Y))) 94 (0, 0)) from hWn ▸ GS'')
       have GI := Box.mk (show V4.heap[bI]? = some (.cells (ncell (qd 1)) 94 (0, 0)) from hWn ▸ GI'')
       replace B0 := Box.mk (show Gr w V4 from hWn ▸ gb)
       clear gb hF7 hw7 GR' GR'' GY' GY'' GS' GS'' GI' GI'' hbI hnbI
       go_upto_region 12 with (((with_reducible refine wpList_storeN rfl (.tmp 8) (.tmp 37) rfl bI (qd 1) (f0) HN0.out ?_ ?_ ?_); rfl; rfl))
       try go_frame
       rw [← hWn]
       clear hWn HN0
       refine wp_region_mix 16 [.flo, .flo, .cha, .flo, .cha, .flo, .cha, .cha, .cha, .cha, .cha, .flo, .flo, .flo, .new (.cells (ncell (f0)) 94), .cha] (by kernel_rfl) (by kernel_rfl) rfl ?_
       simp only [List.take, List.zip, List.zipWith]
       refine gm_loadN (.tmp 7) rfl bS (qd (Y * Y)) GS.out rfl ?_
       try go_frame
       refine gm_loadN (.tmp 8) rfl bI (qd 1) GI.out rfl ?_
       try go_frame
       refine gm_call [.agg (ncell (qd (Y * Y))), .agg (ncell (qd 1))] (by kernel_rfl) rfl rfl Stb.tt (fun w1 hw1 _ => (qminus (Y * Y) 1 w1).mono ?_)
       rintro e w2 ⟨rfl, hw2⟩
       refine ⟨_, rfl, hw2, ?_⟩
       try go_frame
       refine gm_loadN (.tmp 8) rfl bI (qd 1) GI.out rfl ?_
       try go_frame
       refine gm_call [] (by kernel_rfl) rfl rfl Stb.tt (fun w1 hw1 _ => (rD w1).mono ?_)
       rintro e w2 ⟨rfl, hw2⟩
       refine ⟨_, rfl, hw2, ?_⟩
       try go_frame
       refine gm_loadN (.tmp 7) rfl bS (qd (Y * Y)) GS.out rfl ?_
       try go_frame
       refine gm_call [.agg (ncell (qd cd)), .agg (ncell (qd (Y * Y)))] (by kernel_rfl) rfl rfl Stb.tt (fun w1 hw1 _ => (qtimes cd (Y * Y) w1).mono ?_)
       rintro e w2 ⟨rfl, hw2⟩
       refine ⟨_, rfl, hw2, ?_⟩
       try go_frame
       refine gm_call [.agg (ncell (qd 1)), .agg (ncell (qd (cd * (Y * Y))))] (by kernel_rfl) rfl rfl Stb.tt (fun w1 hw1 _ => (qplus 1 (cd * (Y * Y)) w1).mono ?_)
       rintro e w2 ⟨rfl, hw2⟩
       refine ⟨_, rfl, hw2, ?_⟩
       try go_frame
       rw [show 1 + cd * (Y * Y) = Y * Y * cd + 1 by grind]
       refine gm_call [.agg (ncell (qd (Y * Y * cd + 1)))] (by kernel_rfl) rfl rfl Stb.tt (fun w1 hw1 _ => (qinv (Y * Y * cd + 1) w1).mono ?_)
       rintro e w2 ⟨rfl, hw2⟩
       refine ⟨_, rfl, hw2, ?_⟩
       try go_frame
       refine gm_call [.agg (ncell (qd (Y * Y - 1))), .agg (ncell (qd (fi (Y * Y * cd + 1))))] (by kernel_rfl) rfl rfl Stb.tt (fun w1 hw1 _ => (qtimes (Y * Y - 1) (fi (Y * Y * cd + 1)) w1).mono ?_)
       rintro e w2 ⟨rfl, hw2⟩
       refine ⟨_, rfl, hw2, ?_⟩
       try go_frame
       rw [show (Y * Y - 1) * fi (Y * Y * cd + 1) = xxOf Y from rfl]
       refine gm_call [.agg (ncell (qd (xxOf Y)))] (by kernel_rfl) rfl rfl Stb.tt (fun w1 hw1 _ => (qroots (xxOf Y) w1).mono ?_)
       rintro e w2 ⟨rfl, hw2⟩
       refine ⟨_, rfl, hw2, ?_⟩
       try go_frame
       obtain ⟨ok, hok⟩ : ∃ ok, ok = (rtN (xxOf Y).val).2 := ⟨_, rfl⟩
       obtain ⟨x, hx⟩ : ∃ x, x = fv (rtN (xxOf Y).val).1 := ⟨_, rfl⟩
       rw [← hok, ← hx]
       have OK := Box.mk hok; have EX := Box.mk hx
       clear hok hx
       refine gm_move (.tmp 49) (.inl rfl) (.tuple #[.agg (ncell (qd x)), .bool ok]) rfl ?_
       try go_frame
       refine gm_extract (vs := #[.agg (ncell (qd x)), .bool ok]) (.tmp 38) 0 rfl rfl (.agg (ncell (qd x))) rfl ?_
       try go_frame
       refine gm_extract (vs := #[.agg (ncell (qd x)), .bool ok]) (.tmp 38) 1 rfl rfl (.bool ok) rfl ?_
       try go_frame
       refine gm_alloc rfl (.cells (ncell (f0)) 94) (fun _ => by kernel_rfl) (fun bX hbX hnbX => ?_)
       try go_frame
       refine gm_storeN (.tmp 9) (.tmp 50) rfl bX (ncell f0) (ncell (qd x)) 94 rfl rfl List.mem_cons_self rfl (by kernel_rfl) rfl (ncell_one (qd x)) (fun _ => True) (fun w h => ⟨trivial, h.2⟩) Stb.tt (fun _ _ => trivial) ?_
       try go_frame
       refine gm_nil ?_
       intro u5 hw7 hF7
       simp only [List.drop]
       try go_frame
       have ne_br_bX : br ≠ bX := Nat.ne_of_lt (Nat.lt_of_lt_of_le (Gr.blt GR.out) hbX)
       have ne_bY_bX : bY ≠ bX := Nat.ne_of_lt (Nat.lt_of_lt_of_le (Gr.blt GY.out) hbX)
       have ne_bS_bX : bS ≠ bX := Nat.ne_of_lt (Nat.lt_of_lt_of_le (Gr.blt GS.out) hbX)
       have ne_bI_bX : bI ≠ bX := Nat.ne_of_lt (Nat.lt_of_lt_of_le (Gr.blt GI.out) hbX)
       have nb_bX : w.heap.size ≤ bX := Nat.le_trans B0.out.size hbX
       have GR' := hw7.block GR.out
       have GY' := hw7.block GY.out
       have GS' := hw7.block GS.out
       have GI' := hw7.block GI.out
       have GX' : u5.heap[bX]? = some (.cells (ncell (qd x)) 94 (0, 0)) := hF7.2
       have gb : Gr w u5 := B0.out.trans (Gr.trans (show Gr V4 V4.drew from (Below.refl _ _).drew) hw7)
       replace GR := Box.mk (show u5.heap[br]? = some (.cells (qcell f0 f0 f0) 96 (0, 0)) from GR')
       replace GY := Box.mk (show u5.heap[bY]? = some (.cells (ncell (qd Y)) 94 (0, 0)) from GY')
       replace GS := Box.mk (show u5.heap[bS]? = some (.cells (ncell (qd (Y * Y))) 94 (0, 0)) from GS')
       replace GI := Box.mk (show u5.heap[bI]? = some (.cells (ncell (qd 1)) 94 (0, 0)) from GI')
       have GX := Box.mk (show u5.heap[bX]? = some (.cells (ncell (qd x)) 94 (0, 0)) from GX')
       replace B0 := Box.mk (show Gr w u5 from gb)
       clear gb hF7 hw7 GR' GY' GS' GI' GX' hbX hnbX
       go_upto_region 13 with (fail)
       try go_frame
       cases ok
       ·
         go_upto_region 14 with (fail)
         try go_frame
         refine wp_region_seq 1 [.flo] (by rfl) rfl (by decide) ?_
         simp only [List.take, List.zip, List.zipWith]
         refine gm_build [] rfl rfl _ qbuild0 ?_
         try go_frame
         refine gm_nil ?_
         intro u6 hw7 hF7
         simp only [List.drop]
         try go_frame
         have GR' := hw7.block GR.out
         have GY' := hw7.block GY.out
         have GS' := hw7.block GS.out
         have GI' := hw7.block GI.out
         have GX' := hw7.block GX.out
         have gb : Gr w u6 := B0.out.trans hw7
         replace GR := Box.mk (show u6.heap[br]? = some (.cells (qcell f0 f0 f0) 96 (0, 0)) from GR')
         replace GY := Box.mk (show u6.heap[bY]? = some (.cells (ncell (qd Y)) 94 (0, 0)) from GY')
         replace GS := Box.mk (show u6.heap[bS]? = some (.cells (ncell (qd (Y * Y))) 94 (0, 0)) from GS')
         replace GI := Box.mk (show u6.heap[bI]? = some (.cells (ncell (qd 1)) 94 (0, 0)) from GI')
         replace GX := Box.mk (show u6.heap[bX]? = some (.cells (ncell (qd x)) 94 (0, 0)) from GX')
         replace B0 := Box.mk (show Gr w u6 from gb)
         clear gb hF7 hw7 GR' GY' GS' GI' GX'
         go_wp2_with ((with_reducible refine wpList_storeQ rfl (.tmp 2) (.tmp 61) rfl br f0 f0 f0 (qcell f0 f0 f0) rfl GR.out ?_ ?_ ?_); rfl; rfl)
         exact bodyPost_ret (results_row_tmp (p := 2) (q := 3) (ty := 96) rfl _ _ br 96 (qcell f0 f0 f0) _ _ rfl (setRow_heap _ _ _ _ _ _ GR.out) rfl Tryz.underlying96 rfl (by kernel_rfl)) rfl ⟨false, f0, f0, f0, rfl, .inr ⟨rfl, no_root' HS.out YV.out OK.out.symm⟩, B0.out.setRow nb_br _⟩
       ·
         go_upto_region 17 with (fail)
         try go_frame
         refine wp_region_seq 3 [.flo, .flo, .cha] (by rfl) rfl (by decide) ?_
         simp only [List.take, List.zip, List.zipWith]
         refine gm_loadN (.tmp 9) rfl bX (qd x) GX.out rfl ?_
         try go_frame
         refine gm_loadN (.tmp 6) rfl bY (qd Y) GY.out rfl ?_
         try go_frame
         refine gm_call [.agg (ncell (qd x)), .agg (ncell (qd Y))] (by kernel_rfl) rfl rfl Stb.tt (fun w1 hw1 _ => (rAt x Y w1).mono ?_)
         rintro e w2 ⟨rfl, hw2⟩
         refine ⟨_, rfl, hw2, ?_⟩
         try go_frame
         refine gm_nil ?_
         intro u7 hw7 hF7
         simp only [List.drop]
         try go_frame
         have GR' := hw7.block GR.out
         have GY' := hw7.block GY.out
         have GS' := hw7.block GS.out
         have GI' := hw7.block GI.out
         have GX' := hw7.block GX.out
         have gb : Gr w u7 := B0.out.trans hw7
         replace GR := Box.mk (show u7.heap[br]? = some (.cells (qcell f0 f0 f0) 96 (0, 0)) from GR')
         replace GY := Box.mk (show u7.heap[bY]? = some (.cells (ncell (qd Y)) 94 (0, 0)) from GY')
         replace GS := Box.mk (show u7.heap[bS]? = some (.cells (ncell (qd (Y * Y))) 94 (0, 0)) from GS')
         replace GI := Box.mk (show u7.heap[bI]? = some (.cells (ncell (qd 1)) 94 (0, 0)) from GI')
         replace GX := Box.mk (show u7.heap[bX]? = some (.cells (ncell (qd x)) 94 (0, 0)) from GX')
         replace B0 := Box.mk (show Gr w u7 from gb)
         clear gb hF7 hw7 GR' GY' GS' GI' GX'
         go_wp2_with ((with_reducible refine wpList_storeQ rfl (.tmp 2) (.tmp 68) rfl br (qd x) (qd Y) (qd 1) (qcell f0 f0 f0) rfl GR.out ?_ ?_ ?_); rfl; rfl)
         obtain ⟨p, hp1, hp2⟩ := rparse_ok HS.out YV.out OK.out.symm 0 NB.out (by omega) (fun h => by omega)
         rw [show rX Y 0 = x from by unfold rX; rw [if_neg (by omega), EX.out]] at hp2
         exact bodyPost_ret (results_row_tmp (p := 2) (q := 3) (ty := 96) rfl _ _ br 96 (qcell (qd x) (qd Y) (qd 1)) _ _ rfl (setRow_heap _ _ _ _ _ _ GR.out) rfl Tryz.underlying96 rfl (by kernel_rfl)) rfl ⟨true, qd x, qd Y, qd 1, rfl, .inl ⟨rfl, p, _, _, hp1, hp2, rfl, rfl, rfl⟩, B0.out.setRow nb_br _⟩
   ·
     have hq1 : 128 ≤ q := by have := OD.out; simpa using this
     have NB := Box.mk (show Go.Proofs.YtafhncpaoolljaaGreat.num s / 2 ^ 255 = 1 from by rw [SG.out]; omega)
     go_upto_region 6 with (fail)
     try go_frame
     refine wp_region_mix 8 [.flo, .flo, .flo, .flo, .flo, .cha, .cha, .flo] (by kernel_rfl) (by kernel_rfl) rfl ?_
     simp only [List.take, List.zip, List.zipWith]
     refine gm_move (.tmp 0) (.inl rfl) (.string s) rfl ?_
     try go_frame
     refine gm_slice (.tmp 20) none (some (.const (.int .i64 31))) none rfl (.string (s.extract 0 31)) (run_cut31 HS.out) ?_
     try go_frame
     refine gm_move (.tmp 0) (.inl rfl) (.string s) rfl ?_
     try go_frame
     refine gm_index (.tmp 22) (.const (.int .i64 31)) rfl (.int .u8 (q : Int)) (by rw [HQ.out]; exact run_at31 HS.out) ?_
     try go_frame
     refine gm_bin (.tmp 23) (.const (.int .u8 128)) rfl (.int .u8 ((q % 128 : Nat) : Int)) (fun _ _ => rfl) (run_sub128 q hq8 hq1) ?_
     try go_frame
     refine gm_one (.tmp 24) rfl _ rfl (run_one _ ⟨_, _, rfl⟩) Stb.tt (fun b1 hb1 => ?_)
     try go_frame
     refine gm_conv (.tmp 25) rfl (.string ⟨[UInt8.ofNat (q % 128)].toArray⟩) (Stb.tt.new _ _) (fun wc hwc hFc => run_str_at Tryz.prog wc b1 0 1 [UInt8.ofNat (q % 128)] 29 9 5 1 rfl Tryz.underlying29 Tryz.underlying5 Tryz.underlying9 (fun j u hj => ?_)) ?_
     · match j, hj with
       | 0, hj =>
         simp at hj; subst hj
         rw [cell_of_row _ _ _ _ _ _ hFc.2]
         show some (Value.int .u8 ((q % 128 : Nat) : Int)) = some (Value.int .u8 (((UInt8.ofNat (q % 128)).toNat : Nat) : Int))
         congr 2
         rw [UInt8.toNat_ofNat']; omega
     try go_frame
     have hpl : s.extract 0 31 ++ ⟨[UInt8.ofNat (q % 128)].toArray⟩ = sbytes (Go.Proofs.YtafhncpaoolljaaGreat.num s % 2 ^ 255) := plain_eq HS.out _ (by rw [UInt8.toNat_ofNat', ← HQ.out]; omega)
     obtain ⟨pl, hpl2⟩ : ∃ pl, pl = sbytes (Go.Proofs.YtafhncpaoolljaaGreat.num s % 2 ^ 255) := ⟨_, rfl⟩
     refine gm_bin (.tmp 21) (.tmp 26) rfl (.string pl) (fun _ _ => rfl) (fun w' => ?_) ?_
     · rw [hpl2, ← hpl]; exact run_string_add_sum _ _ _ (by have := congrArg ByteArray.size hpl; rw [ByteArray.size_append, sbytes_size] at this; omega)
     try go_frame
     have HT := Box.mk (show pl.size = 32 from by rw [hpl2, sbytes_size])
     have VT := Box.mk (show Go.Proofs.YtafhncpaoolljaaGreat.num pl = Go.Proofs.YtafhncpaoolljaaGreat.num s % 2 ^ 255 from by rw [hpl2, num_sbytes]; have e1 : (256 : Nat) ^ 32 = 2 ^ 256 := rfl; omega)
     clear hpl hpl2
     refine gm_nil ?_
     intro u8 hw7 hF7
     simp only [List.drop]
     try go_frame
     have GR' := hw7.block GR.out
     have gb : Gr w u8 := B0.out.trans (Gr.trans (show Gr W0 W0.drew from (Below.refl _ _).drew) hw7)
     replace GR := Box.mk (show u8.heap[br]? = some (.cells (qcell f0 f0 f0) 96 (0, 0)) from GR')
     replace B0 := Box.mk (show Gr w u8 from gb)
     clear gb hF7 hw7 GR'
     go_upto_region 7 with (fail)
     try go_frame
     cases hel : elB pl
     ·
       have hno : NoP s := no_big HS.out (by rw [elB_eq, ← VT.out] at *; have h1 := of_decide_eq_false hel; have := HT.out; omega)
       have HN := Box.mk hno
       have HIS := Box.mk (fun v => hel ▸ qis pl HT.out v)
       clear hel hno
       go_wp2_with fail
       refine (HIS.out _).mono ?_
       rintro e w7 ⟨rfl, hg⟩
       replace GR := Box.mk (hg.block GR.out); replace B0 := Box.mk (B0.out.trans hg)
       clear hg HIS
       go_upto_region 8 with (fail)
       try go_frame
       refine wp_region_seq 1 [.flo] (by rfl) rfl (by decide) ?_
       simp only [List.take, List.zip, List.zipWith]
       refine gm_build [] rfl rfl _ qbuild0 ?_
       try go_frame
       refine gm_nil ?_
       intro u9 hw7 hF7
       simp only [List.drop]
       try go_frame
       have GR' := hw7.block GR.out
       have gb : Gr w u9 := B0.out.trans hw7
       replace GR := Box.mk (show u9.heap[br]? = some (.cells (qcell f0 f0 f0) 96 (0, 0)) from GR')
       replace B0 := Box.mk (show Gr w u9 from gb)
       clear gb hF7 hw7 GR'
       go_wp2_with ((with_reducible refine wpList_storeQ rfl (.tmp 2) (.tmp 31) rfl br f0 f0 f0 (qcell f0 f0 f0) rfl GR.out ?_ ?_ ?_); rfl; rfl)
       exact bodyPost_ret (results_row_tmp (p := 2) (q := 3) (ty := 96) rfl _ _ br 96 (qcell f0 f0 f0) _ _ rfl (setRow_heap _ _ _ _ _ _ GR.out) rfl Tryz.underlying96 rfl (by kernel_rfl)) rfl ⟨false, f0, f0, f0, rfl, .inr ⟨rfl, HN.out⟩, B0.out.setRow nb_br _⟩
     ·
       have hlt' : Go.Proofs.YtafhncpaoolljaaGreat.num pl < fp := by rw [elB_eq] at hel; exact (of_decide_eq_true hel).2
       have HIS := Box.mk (fun v => hel ▸ qis pl HT.out v)
       obtain ⟨Y, hY⟩ : ∃ Y, Y = fv (Go.Proofs.YtafhncpaoolljaaGreat.num pl) := ⟨_, rfl⟩
       have YV := Box.mk (show Y.val = Go.Proofs.YtafhncpaoolljaaGreat.num s % 2 ^ 255 from by rw [hY, fv_val, Nat.mod_eq_of_lt hlt']; exact VT.out)
       have HNUM := Box.mk (fun v => hY ▸ qnum pl HT.out v)
       clear hel hlt' hY
       go_wp2_with fail
       refine (HIS.out _).mono ?_
       rintro e w7 ⟨rfl, hg⟩
       replace GR := Box.mk (hg.block GR.out); replace B0 := Box.mk (B0.out.trans hg)
       clear hg HIS
       go_upto_region 9 with (fail)
       try go_frame
       refine wp_region_seq 3 [.flo, .cha, .new (.cells (ncell (f0)) 94)] (by rfl) rfl (by decide) ?_
       simp only [List.take, List.zip, List.zipWith]
       refine gm_move (.tmp 5) (.inl rfl) (.string pl) rfl ?_
       try go_frame
       refine gm_call [.string pl] (by kernel_rfl) rfl rfl Stb.tt (fun w1 hw1 _ => (HNUM.out w1).mono ?_)
       rintro e w2 ⟨rfl, hw2⟩
       refine ⟨_, rfl, hw2, ?_⟩
       try go_frame
       refine gm_alloc rfl (.cells (ncell (f0)) 94) (fun _ => by kernel_rfl) (fun bY hbY hnbY => ?_)
       try go_frame
       refine gm_nil ?_
       intro u10 hw7 hF7
       simp only [List.drop]
       try go_frame
       have ne_br_bY : br ≠ bY := Nat.ne_of_lt (Nat.lt_of_lt_of_le (Gr.blt GR.out) hbY)
       have nb_bY : w.heap.size ≤ bY := Nat.le_trans B0.out.size hbY
       have GR' := hw7.block GR.out
       have GY' : u10.heap[bY]? = some (.cells (ncell (f0)) 94 (0, 0)) := hF7.2
       have gb : Gr w u10 := B0.out.trans hw7
       have HN0 := Box.mk GY'
       have GR'' := show ((u10.setRow bY (ncell (qd Y)))).heap[br]? = _ from (setRow_other _ _ _ _ (by first | exact ne_br_bY | exact Ne.symm ne_bY_br)).trans GR'
       have GY'' := show ((u10.setRow bY (ncell (qd Y)))).heap[bY]? = some (.cells (ncell (qd Y)) 94 (0, 0)) from setRow_heap _ _ _ _ _ _ GY'
       replace gb := gb.setRow (nb_bY) (ncell (qd Y))
       obtain ⟨V10, hWn⟩ : ∃ W, W = (u10.setRow bY (ncell (qd Y))) := ⟨_, rfl⟩
       replace GR := Box.mk (show V10.heap[br]? = some (.cells (qcell f0 f0 f0) 96 (0, 0)) from hWn ▸ GR'')
       have GY := Box.mk (show V10.heap[bY]? = some (.cells (ncell (qd Y)) 94 (0, 0)) from hWn ▸ GY'')
       replace B0 := Box.mk (show Gr w V10 from hWn ▸ gb)
       clear gb hF7 hw7 GR' GR'' GY' GY'' hbY hnbY
       go_upto_region 10 with (((with_reducible refine wpList_storeN rfl (.tmp 6) (.tmp 33) rfl bY (qd Y) (f0) HN0.out ?_ ?_ ?_); rfl; rfl))
       try go_frame
       rw [← hWn]
       clear hWn HN0
       refine wp_region_seq 4 [.flo, .flo, .cha, .new (.cells (ncell (f0)) 94)] (by rfl) rfl (by decide) ?_
       simp only [List.take, List.zip, List.zipWith]
       refine gm_loadN (.tmp 6) rfl bY (qd Y) GY.out rfl ?_
       try go_frame
       refine gm_loadN (.tmp 6) rfl bY (qd Y) GY.out rfl ?_
       try go_frame
       refine gm_call [.agg (ncell (qd Y)), .agg (ncell (qd Y))] (by kernel_rfl) rfl rfl Stb.tt (fun w1 hw1 _ => (qtimes Y Y w1).mono ?_)
       rintro e w2 ⟨rfl, hw2⟩
       refine ⟨_, rfl, hw2, ?_⟩
       try go_frame
       refine gm_alloc rfl (.cells (ncell (f0)) 94) (fun _ => by kernel_rfl) (fun bS hbS hnbS => ?_)
       try go_frame
       refine gm_nil ?_
       intro u11 hw7 hF7
       simp only [List.drop]
       try go_frame
       have ne_br_bS : br ≠ bS := Nat.ne_of_lt (Nat.lt_of_lt_of_le (Gr.blt GR.out) hbS)
       have ne_bY_bS : bY ≠ bS := Nat.ne_of_lt (Nat.lt_of_lt_of_le (Gr.blt GY.out) hbS)
       have nb_bS : w.heap.size ≤ bS := Nat.le_trans B0.out.size hbS
       have GR' := hw7.block GR.out
       have GY' := hw7.block GY.out
       have GS' : u11.heap[bS]? = some (.cells (ncell (f0)) 94 (0, 0)) := hF7.2
       have gb : Gr w u11 := B0.out.trans hw7
       have HN0 := Box.mk GS'
       have GR'' := show ((u11.setRow bS (ncell (qd (Y * Y))))).heap[br]? = _ from (setRow_other _ _ _ _ (by first | exact ne_br_bS | exact Ne.symm ne_bS_br)).trans GR'
       have GY'' := show ((u11.setRow bS (ncell (qd (Y * Y))))).heap[bY]? = _ from (setRow_other _ _ _ _ (by first | exact ne_bY_bS | exact Ne.symm ne_bS_bY)).trans GY'
       have GS'' := show ((u11.setRow bS (ncell (qd (Y * Y))))).heap[bS]? = some (.cells (ncell (qd (Y * Y))) 94 (0, 0)) from setRow_heap _ _ _ _ _ _ GS'
       replace gb := gb.setRow (nb_bS) (ncell (qd (Y * Y)))
       obtain ⟨V11, hWn⟩ : ∃ W, W = (u11.setRow bS (ncell (qd (Y * Y)))) := ⟨_, rfl⟩
       replace GR := Box.mk (show V11.heap[br]? = some (.cells (qcell f0 f0 f0) 96 (0, 0)) from hWn ▸ GR'')
       replace GY := Box.mk (show V11.heap[bY]? = some (.cells (ncell (qd Y)) 94 (0, 0)) from hWn ▸ GY'')
       have GS := Box.mk (show V11.heap[bS]? = some (.cells (ncell (qd (Y * Y))) 94 (0, 0)) from hWn ▸ GS'')
       replace B0 := Box.mk (show Gr w V11 from hWn ▸ gb)
       clear gb hF7 hw7 GR' GR'' GY' GY'' GS' GS'' hbS hnbS
       go_upto_region 11 with (((with_reducible refine wpList_storeN rfl (.tmp 7) (.tmp 36) rfl bS (qd (Y * Y)) (f0) HN0.out ?_ ?_ ?_); rfl; rfl))
       try go_frame
       rw [← hWn]
       clear hWn HN0
       refine wp_region_seq 2 [.cha, .new (.cells (ncell (f0)) 94)] (by rfl) rfl (by decide) ?_
       simp only [List.take, List.zip, List.zipWith]
       refine gm_call [.int .i64 1] (by kernel_rfl) rfl rfl Stb.tt (fun w1 hw1 _ => (qsmall1 w1).mono ?_)
       rintro e w2 ⟨rfl, hw2⟩
       refine ⟨_, rfl, hw2, ?_⟩
       try go_frame
       refine gm_alloc rfl (.cells (ncell (f0)) 94) (fun _ => by kernel_rfl) (fun bI hbI hnbI => ?_)
       try go_frame
       refine gm_nil ?_
       intro u12 hw7 hF7
       simp only [List.drop]
       try go_frame
       have ne_br_bI : br ≠ bI := Nat.ne_of_lt (Nat.lt_of_lt_of_le (Gr.blt GR.out) hbI)
       have ne_bY_bI : bY ≠ bI := Nat.ne_of_lt (Nat.lt_of_lt_of_le (Gr.blt GY.out) hbI)
       have ne_bS_bI : bS ≠ bI := Nat.ne_of_lt (Nat.lt_of_lt_of_le (Gr.blt GS.out) hbI)
       have nb_bI : w.heap.size ≤ bI := Nat.le_trans B0.out.size hbI
       have GR' := hw7.block GR.out
       have GY' := hw7.block GY.out
       have GS' := hw7.block GS.out
       have GI' : u12.heap[bI]? = some (.cells (ncell (f0)) 94 (0, 0)) := hF7.2
       have gb : Gr w u12 := B0.out.trans hw7
       have HN0 := Box.mk GI'
       have GR'' := show ((u12.setRow bI (ncell (qd 1)))).heap[br]? = _ from (setRow_other _ _ _ _ (by first | exact ne_br_bI | exact Ne.symm ne_bI_br)).trans GR'
       have GY'' := show ((u12.setRow bI (ncell (qd 1)))).heap[bY]? = _ from (setRow_other _ _ _ _ (by first | exact ne_bY_bI | exact Ne.symm ne_bI_bY)).trans GY'
       have GS'' := show ((u12.setRow bI (ncell (qd 1)))).heap[bS]? = _ from (setRow_other _ _ _ _ (by first | exact ne_bS_bI | exact Ne.symm ne_bI_bS)).trans GS'
       have GI'' := show ((u12.setRow bI (ncell (qd 1)))).heap[bI]? = some (.cells (ncell (qd 1)) 94 (0, 0)) from setRow_heap _ _ _ _ _ _ GI'
       replace gb := gb.setRow (nb_bI) (ncell (qd 1))
       obtain ⟨V12, hWn⟩ : ∃ W, W = (u12.setRow bI (ncell (qd 1))) := ⟨_, rfl⟩
       replace GR := Box.mk (show V12.heap[br]? = some (.cells (qcell f0 f0 f0) 96 (0, 0)) from hWn ▸ GR'')
       replace GY := Box.mk (show V12.heap[bY]? = some (.cells (ncell (qd Y)) 94 (0, 0)) from hWn ▸ GY'')
       replace GS := Box.mk (show V12.heap[bS]? = some (.cells (ncell (qd (Y * Y))) 94 (0, 0)) from hWn ▸ GS'')
       have GI := Box.mk (show V12.heap[bI]? = some (.cells (ncell (qd 1)) 94 (0, 0)) from hWn ▸ GI'')
       replace B0 := Box.mk (show Gr w V12 from hWn ▸ gb)
       clear gb hF7 hw7 GR' GR'' GY' GY'' GS' GS'' GI' GI'' hbI hnbI
       go_upto_region 12 with (((with_reducible refine wpList_storeN rfl (.tmp 8) (.tmp 37) rfl bI (qd 1) (f0) HN0.out ?_ ?_ ?_); rfl; rfl))
       try go_frame
       rw [← hWn]
       clear hWn HN0
       refine wp_region_mix 16 [.flo, .flo, .cha, .flo, .cha, .flo, .cha, .cha, .cha, .cha, .cha, .flo, .flo, .flo, .new (.cells (ncell (f0)) 94), .cha] (by kernel_rfl) (by kernel_rfl) rfl ?_
       simp only [List.take, List.zip, List.zipWith]
       refine gm_loadN (.tmp 7) rfl bS (qd (Y * Y)) GS.out rfl ?_
       try go_frame
       refine gm_loadN (.tmp 8) rfl bI (qd 1) GI.out rfl ?_
       try go_frame
       refine gm_call [.agg (ncell (qd (Y * Y))), .agg (ncell (qd 1))] (by kernel_rfl) rfl rfl Stb.tt (fun w1 hw1 _ => (qminus (Y * Y) 1 w1).mono ?_)
       rintro e w2 ⟨rfl, hw2⟩
       refine ⟨_, rfl, hw2, ?_⟩
       try go_frame
       refine gm_loadN (.tmp 8) rfl bI (qd 1) GI.out rfl ?_
       try go_frame
       refine gm_call [] (by kernel_rfl) rfl rfl Stb.tt (fun w1 hw1 _ => (rD w1).mono ?_)
       rintro e w2 ⟨rfl, hw2⟩
       refine ⟨_, rfl, hw2, ?_⟩
       try go_frame
       refine gm_loadN (.tmp 7) rfl bS (qd (Y * Y)) GS.out rfl ?_
       try go_frame
       refine gm_call [.agg (ncell (qd cd)), .agg (ncell (qd (Y * Y)))] (by kernel_rfl) rfl rfl Stb.tt (fun w1 hw1 _ => (qtimes cd (Y * Y) w1).mono ?_)
       rintro e w2 ⟨rfl, hw2⟩
       refine ⟨_, rfl, hw2, ?_⟩
       try go_frame
       refine gm_call [.agg (ncell (qd 1)), .agg (ncell (qd (cd * (Y * Y))))] (by kernel_rfl) rfl rfl Stb.tt (fun w1 hw1 _ => (qplus 1 (cd * (Y * Y)) w1).mono ?_)
       rintro e w2 ⟨rfl, hw2⟩
       refine ⟨_, rfl, hw2, ?_⟩
       try go_frame
       rw [show 1 + cd * (Y * Y) = Y * Y * cd + 1 by grind]
       refine gm_call [.agg (ncell (qd (Y * Y * cd + 1)))] (by kernel_rfl) rfl rfl Stb.tt (fun w1 hw1 _ => (qinv (Y * Y * cd + 1) w1).mono ?_)
       rintro e w2 ⟨rfl, hw2⟩
       refine ⟨_, rfl, hw2, ?_⟩
       try go_frame
       refine gm_call [.agg (ncell (qd (Y * Y - 1))), .agg (ncell (qd (fi (Y * Y * cd + 1))))] (by kernel_rfl) rfl rfl Stb.tt (fun w1 hw1 _ => (qtimes (Y * Y - 1) (fi (Y * Y * cd + 1)) w1).mono ?_)
       rintro e w2 ⟨rfl, hw2⟩
       refine ⟨_, rfl, hw2, ?_⟩
       try go_frame
       rw [show (Y * Y - 1) * fi (Y * Y * cd + 1) = xxOf Y from rfl]
       refine gm_call [.agg (ncell (qd (xxOf Y)))] (by kernel_rfl) rfl rfl Stb.tt (fun w1 hw1 _ => (qroots (xxOf Y) w1).mono ?_)
       rintro e w2 ⟨rfl, hw2⟩
       refine ⟨_, rfl, hw2, ?_⟩
       try go_frame
       obtain ⟨ok, hok⟩ : ∃ ok, ok = (rtN (xxOf Y).val).2 := ⟨_, rfl⟩
       obtain ⟨x, hx⟩ : ∃ x, x = fv (rtN (xxOf Y).val).1 := ⟨_, rfl⟩
       rw [← hok, ← hx]
       have OK := Box.mk hok; have EX := Box.mk hx
       clear hok hx
       refine gm_move (.tmp 49) (.inl rfl) (.tuple #[.agg (ncell (qd x)), .bool ok]) rfl ?_
       try go_frame
       refine gm_extract (vs := #[.agg (ncell (qd x)), .bool ok]) (.tmp 38) 0 rfl rfl (.agg (ncell (qd x))) rfl ?_
       try go_frame
       refine gm_extract (vs := #[.agg (ncell (qd x)), .bool ok]) (.tmp 38) 1 rfl rfl (.bool ok) rfl ?_
       try go_frame
       refine gm_alloc rfl (.cells (ncell (f0)) 94) (fun _ => by kernel_rfl) (fun bX hbX hnbX => ?_)
       try go_frame
       refine gm_storeN (.tmp 9) (.tmp 50) rfl bX (ncell f0) (ncell (qd x)) 94 rfl rfl List.mem_cons_self rfl (by kernel_rfl) rfl (ncell_one (qd x)) (fun _ => True) (fun w h => ⟨trivial, h.2⟩) Stb.tt (fun _ _ => trivial) ?_
       try go_frame
       refine gm_nil ?_
       intro u13 hw7 hF7
       simp only [List.drop]
       try go_frame
       have ne_br_bX : br ≠ bX := Nat.ne_of_lt (Nat.lt_of_lt_of_le (Gr.blt GR.out) hbX)
       have ne_bY_bX : bY ≠ bX := Nat.ne_of_lt (Nat.lt_of_lt_of_le (Gr.blt GY.out) hbX)
       have ne_bS_bX : bS ≠ bX := Nat.ne_of_lt (Nat.lt_of_lt_of_le (Gr.blt GS.out) hbX)
       have ne_bI_bX : bI ≠ bX := Nat.ne_of_lt (Nat.lt_of_lt_of_le (Gr.blt GI.out) hbX)
       have nb_bX : w.heap.size ≤ bX := Nat.le_trans B0.out.size hbX
       have GR' := hw7.block GR.out
       have GY' := hw7.block GY.out
       have GS' := hw7.block GS.out
       have GI' := hw7.block GI.out
       have GX' : u13.heap[bX]? = some (.cells (ncell (qd x)) 94 (0, 0)) := hF7.2
       have gb : Gr w u13 := B0.out.trans (Gr.trans (show Gr V12 V12.drew from (Below.refl _ _).drew) hw7)
       replace GR := Box.mk (show u13.heap[br]? = some (.cells (qcell f0 f0 f0) 96 (0, 0)) from GR')
       replace GY := Box.mk (show u13.heap[bY]? = some (.cells (ncell (qd Y)) 94 (0, 0)) from GY')
       replace GS := Box.mk (show u13.heap[bS]? = some (.cells (ncell (qd (Y * Y))) 94 (0, 0)) from GS')
       replace GI := Box.mk (show u13.heap[bI]? = some (.cells (ncell (qd 1)) 94 (0, 0)) from GI')
       have GX := Box.mk (show u13.heap[bX]? = some (.cells (ncell (qd x)) 94 (0, 0)) from GX')
       replace B0 := Box.mk (show Gr w u13 from gb)
       clear gb hF7 hw7 GR' GY' GS' GI' GX' hbX hnbX
       go_upto_region 13 with (fail)
       try go_frame
       cases ok
       ·
         go_upto_region 14 with (fail)
         try go_frame
         refine wp_region_seq 1 [.flo] (by rfl) rfl (by decide) ?_
         simp only [List.take, List.zip, List.zipWith]
         refine gm_build [] rfl rfl _ qbuild0 ?_
         try go_frame
         refine gm_nil ?_
         intro u14 hw7 hF7
         simp only [List.drop]
         try go_frame
         have GR' := hw7.block GR.out
         have GY' := hw7.block GY.out
         have GS' := hw7.block GS.out
         have GI' := hw7.block GI.out
         have GX' := hw7.block GX.out
         have gb : Gr w u14 := B0.out.trans hw7
         replace GR := Box.mk (show u14.heap[br]? = some (.cells (qcell f0 f0 f0) 96 (0, 0)) from GR')
         replace GY := Box.mk (show u14.heap[bY]? = some (.cells (ncell (qd Y)) 94 (0, 0)) from GY')
         replace GS := Box.mk (show u14.heap[bS]? = some (.cells (ncell (qd (Y * Y))) 94 (0, 0)) from GS')
         replace GI := Box.mk (show u14.heap[bI]? = some (.cells (ncell (qd 1)) 94 (0, 0)) from GI')
         replace GX := Box.mk (show u14.heap[bX]? = some (.cells (ncell (qd x)) 94 (0, 0)) from GX')
         replace B0 := Box.mk (show Gr w u14 from gb)
         clear gb hF7 hw7 GR' GY' GS' GI' GX'
         go_wp2_with ((with_reducible refine wpList_storeQ rfl (.tmp 2) (.tmp 61) rfl br f0 f0 f0 (qcell f0 f0 f0) rfl GR.out ?_ ?_ ?_); rfl; rfl)
         exact bodyPost_ret (results_row_tmp (p := 2) (q := 3) (ty := 96) rfl _ _ br 96 (qcell f0 f0 f0) _ _ rfl (setRow_heap _ _ _ _ _ _ GR.out) rfl Tryz.underlying96 rfl (by kernel_rfl)) rfl ⟨false, f0, f0, f0, rfl, .inr ⟨rfl, no_root' HS.out YV.out OK.out.symm⟩, B0.out.setRow nb_br _⟩
       ·
         cases hzb : zB x
         ·
           have HZB := Box.mk hzb
           have HZC := Box.mk (fun v => hzb ▸ qzero x v)
           clear hzb
           go_wp2_with ((with_reducible refine wpList_loadNG (.tmp 9) rfl bX (qd x) GX.out ?_ ?_ ?_); rfl; rfl)
           refine (HZC.out _).mono ?_
           rintro e w8 ⟨rfl, hg⟩
           replace GR := Box.mk (hg.block GR.out); replace GY := Box.mk (hg.block GY.out); replace GS := Box.mk (hg.block GS.out); replace GI := Box.mk (hg.block GI.out); replace GX := Box.mk (hg.block GX.out); replace B0 := Box.mk (B0.out.trans hg)
           clear hg HZC
           go_upto_region 16 with (fail)
           try go_frame
           refine wp_region_mix 3 [.cha, .flo, .cha] (by kernel_rfl) (by kernel_rfl) rfl ?_
           simp only [List.take, List.zip, List.zipWith]
           refine gm_call [.int .i64 0] (by kernel_rfl) rfl rfl Stb.tt (fun w1 hw1 _ => (qsmall0 w1).mono ?_)
           rintro e w2 ⟨rfl, hw2⟩
           refine ⟨_, rfl, hw2, ?_⟩
           try go_frame
           refine gm_loadN (.tmp 9) rfl bX (qd x) GX.out rfl ?_
           try go_frame
           refine gm_call [.agg (ncell (qd 0)), .agg (ncell (qd x))] (by kernel_rfl) rfl rfl Stb.tt (fun w1 hw1 _ => (qminus 0 x w1).mono ?_)
           rintro e w2 ⟨rfl, hw2⟩
           refine ⟨_, rfl, hw2, ?_⟩
           try go_frame
           refine gm_nil ?_
           intro u15 hw7 hF7
           simp only [List.drop]
           try go_frame
           have GR' := hw7.block GR.out
           have GY' := hw7.block GY.out
           have GS' := hw7.block GS.out
           have GI' := hw7.block GI.out
           have GX' := hw7.block GX.out
           have gb : Gr w u15 := B0.out.trans (Gr.trans (show Gr w8 w8.drew from (Below.refl _ _).drew) hw7)
           have HN0 := Box.mk GX'
           have GR'' := show ((u15.setRow bX (ncell (qd (0 - x))))).heap[br]? = _ from (setRow_other _ _ _ _ (by first | exact ne_br_bX | exact Ne.symm ne_bX_br)).trans GR'
           have GY'' := show ((u15.setRow bX (ncell (qd (0 - x))))).heap[bY]? = _ from (setRow_other _ _ _ _ (by first | exact ne_bY_bX | exact Ne.symm ne_bX_bY)).trans GY'
           have GS'' := show ((u15.setRow bX (ncell (qd (0 - x))))).heap[bS]? = _ from (setRow_other _ _ _ _ (by first | exact ne_bS_bX | exact Ne.symm ne_bX_bS)).trans GS'
           have GI'' := show ((u15.setRow bX (ncell (qd (0 - x))))).heap[bI]? = _ from (setRow_other _ _ _ _ (by first | exact ne_bI_bX | exact Ne.symm ne_bX_bI)).trans GI'
           have GX'' := show ((u15.setRow bX (ncell (qd (0 - x))))).heap[bX]? = some (.cells (ncell (qd (0 - x))) 94 (0, 0)) from setRow_heap _ _ _ _ _ _ GX'
           replace gb := gb.setRow (nb_bX) (ncell (qd (0 - x)))
           obtain ⟨V15, hWn⟩ : ∃ W, W = (u15.setRow bX (ncell (qd (0 - x)))) := ⟨_, rfl⟩
           replace GR := Box.mk (show V15.heap[br]? = some (.cells (qcell f0 f0 f0) 96 (0, 0)) from hWn ▸ GR'')
           replace GY := Box.mk (show V15.heap[bY]? = some (.cells (ncell (qd Y)) 94 (0, 0)) from hWn ▸ GY'')
           replace GS := Box.mk (show V15.heap[bS]? = some (.cells (ncell (qd (Y * Y))) 94 (0, 0)) from hWn ▸ GS'')
           replace GI := Box.mk (show V15.heap[bI]? = some (.cells (ncell (qd 1)) 94 (0, 0)) from hWn ▸ GI'')
           replace GX := Box.mk (show V15.heap[bX]? = some (.cells (ncell (qd (0 - x))) 94 (0, 0)) from hWn ▸ GX'')
           replace B0 := Box.mk (show Gr w V15 from hWn ▸ gb)
           clear gb hF7 hw7 GR' GR'' GY' GY'' GS' GS'' GI' GI'' GX' GX''
           go_upto_region 17 with (((with_reducible refine wpList_storeN rfl (.tmp 9) (.tmp 65) rfl bX (qd (0 - x)) (qd x) HN0.out ?_ ?_ ?_); rfl; rfl))
           try go_frame
           rw [← hWn]
           clear hWn HN0
           refine wp_region_seq 3 [.flo, .flo, .cha] (by rfl) rfl (by decide) ?_
           simp only [List.take, List.zip, List.zipWith]
           refine gm_loadN (.tmp 9) rfl bX (qd (0 - x)) GX.out rfl ?_
           try go_frame
           refine gm_loadN (.tmp 6) rfl bY (qd Y) GY.out rfl ?_
           try go_frame
           refine gm_call [.agg (ncell (qd (0 - x))), .agg (ncell (qd Y))] (by kernel_rfl) rfl rfl Stb.tt (fun w1 hw1 _ => (rAt (0 - x) Y w1).mono ?_)
           rintro e w2 ⟨rfl, hw2⟩
           refine ⟨_, rfl, hw2, ?_⟩
           try go_frame
           refine gm_nil ?_
           intro u16 hw7 hF7
           simp only [List.drop]
           try go_frame
           have GR' := hw7.block GR.out
           have GY' := hw7.block GY.out
           have GS' := hw7.block GS.out
           have GI' := hw7.block GI.out
           have GX' := hw7.block GX.out
           have gb : Gr w u16 := B0.out.trans hw7
           replace GR := Box.mk (show u16.heap[br]? = some (.cells (qcell f0 f0 f0) 96 (0, 0)) from GR')
           replace GY := Box.mk (show u16.heap[bY]? = some (.cells (ncell (qd Y)) 94 (0, 0)) from GY')
           replace GS := Box.mk (show u16.heap[bS]? = some (.cells (ncell (qd (Y * Y))) 94 (0, 0)) from GS')
           replace GI := Box.mk (show u16.heap[bI]? = some (.cells (ncell (qd 1)) 94 (0, 0)) from GI')
           replace GX := Box.mk (show u16.heap[bX]? = some (.cells (ncell (qd (0 - x))) 94 (0, 0)) from GX')
           replace B0 := Box.mk (show Gr w u16 from gb)
           clear gb hF7 hw7 GR' GY' GS' GI' GX'
           go_wp2_with ((with_reducible refine wpList_storeQ rfl (.tmp 2) (.tmp 68) rfl br (qd (0 - x)) (qd Y) (qd 1) (qcell f0 f0 f0) rfl GR.out ?_ ?_ ?_); rfl; rfl)
           obtain ⟨p, hp1, hp2⟩ := rparse_ok HS.out YV.out OK.out.symm 1 NB.out (by omega) (fun _ => by rw [← EX.out]; have := HZB.out; rw [zB_eq] at this; exact of_decide_eq_false this)
           rw [show rX Y 1 = (0 - x) from by unfold rX; rw [if_pos rfl, EX.out]] at hp2
           exact bodyPost_ret (results_row_tmp (p := 2) (q := 3) (ty := 96) rfl _ _ br 96 (qcell (qd (0 - x)) (qd Y) (qd 1)) _ _ rfl (setRow_heap _ _ _ _ _ _ GR.out) rfl Tryz.underlying96 rfl (by kernel_rfl)) rfl ⟨true, qd (0 - x), qd Y, qd 1, rfl, .inl ⟨rfl, p, _, _, hp1, hp2, rfl, rfl, rfl⟩, B0.out.setRow nb_br _⟩
         ·
           have HZB := Box.mk hzb
           have HZC := Box.mk (fun v => hzb ▸ qzero x v)
           clear hzb
           go_wp2_with ((with_reducible refine wpList_loadNG (.tmp 9) rfl bX (qd x) GX.out ?_ ?_ ?_); rfl; rfl)
           refine (HZC.out _).mono ?_
           rintro e w8 ⟨rfl, hg⟩
           replace GR := Box.mk (hg.block GR.out); replace GY := Box.mk (hg.block GY.out); replace GS := Box.mk (hg.block GS.out); replace GI := Box.mk (hg.block GI.out); replace GX := Box.mk (hg.block GX.out); replace B0 := Box.mk (B0.out.trans hg)
           clear hg HZC
           go_upto_region 14 with (fail)
           try go_frame
           refine wp_region_seq 1 [.flo] (by rfl) rfl (by decide) ?_
           simp only [List.take, List.zip, List.zipWith]
           refine gm_build [] rfl rfl _ qbuild0 ?_
           try go_frame
           refine gm_nil ?_
           intro u17 hw7 hF7
           simp only [List.drop]
           try go_frame
           have GR' := hw7.block GR.out
           have GY' := hw7.block GY.out
           have GS' := hw7.block GS.out
           have GI' := hw7.block GI.out
           have GX' := hw7.block GX.out
           have gb : Gr w u17 := B0.out.trans hw7
           replace GR := Box.mk (show u17.heap[br]? = some (.cells (qcell f0 f0 f0) 96 (0, 0)) from GR')
           replace GY := Box.mk (show u17.heap[bY]? = some (.cells (ncell (qd Y)) 94 (0, 0)) from GY')
           replace GS := Box.mk (show u17.heap[bS]? = some (.cells (ncell (qd (Y * Y))) 94 (0, 0)) from GS')
           replace GI := Box.mk (show u17.heap[bI]? = some (.cells (ncell (qd 1)) 94 (0, 0)) from GI')
           replace GX := Box.mk (show u17.heap[bX]? = some (.cells (ncell (qd x)) 94 (0, 0)) from GX')
           replace B0 := Box.mk (show Gr w u17 from gb)
           clear gb hF7 hw7 GR' GY' GS' GI' GX'
           go_wp2_with ((with_reducible refine wpList_storeQ rfl (.tmp 2) (.tmp 61) rfl br f0 f0 f0 (qcell f0 f0 f0) rfl GR.out ?_ ?_ ?_); rfl; rfl)
           exact bodyPost_ret (results_row_tmp (p := 2) (q := 3) (ty := 96) rfl _ _ br 96 (qcell f0 f0 f0) _ _ rfl (setRow_heap _ _ _ _ _ _ GR.out) rfl Tryz.underlying96 rfl (by kernel_rfl)) rfl ⟨false, f0, f0, f0, rfl, .inr ⟨rfl, rparse_no HS.out YV.out OK.out.symm NB.out (by rw [← EX.out]; have := HZB.out; rw [zB_eq] at this; exact of_decide_eq_true this)⟩, B0.out.setRow nb_br _⟩
 ·
   have hs' : ((s.size : Int) == 32) = false := by rw [beq_eq_false_iff_ne]; omega
   have HN := Box.mk (no_size hs)
   clear hs
   go_enter Tryz.func70, Tryz.ntmps70
   go_upto_region 1 with (fail)
   rw [← hW0, ← hbr]
   clear hW0 hz hbr
   go_upto_region 2 with (fail)
   refine wp_region_seq 1 [.flo] (by rfl) rfl (by decide) ?_
   simp only [List.take, List.zip, List.zipWith]
   refine gm_build [] rfl rfl _ qbuild0 ?_
   try go_frame
   refine gm_nil ?_
   intro u18 hw7 hF7
   simp only [List.drop]
   try go_frame
   have GR' := hw7.block GR.out
   have gb : Gr w u18 := B0.out.trans hw7
   replace GR := Box.mk (show u18.heap[br]? = some (.cells (qcell f0 f0 f0) 96 (0, 0)) from GR')
   replace B0 := Box.mk (show Gr w u18 from gb)
   clear gb hF7 hw7 GR'
   go_wp2_with ((with_reducible refine wpList_storeQ rfl (.tmp 2) (.tmp 14) rfl br f0 f0 f0 (qcell f0 f0 f0) rfl GR.out ?_ ?_ ?_); rfl; rfl)
   exact bodyPost_ret (results_row_tmp (p := 2) (q := 3) (ty := 96) rfl _ _ br 96 (qcell f0 f0 f0) _ _ rfl (setRow_heap _ _ _ _ _ _ GR.out) rfl Tryz.underlying96 rfl (by kernel_rfl)) rfl ⟨false, f0, f0, f0, rfl, .inr ⟨rfl, HN.out⟩, B0.out.setRow nb_br _⟩
end Go.Proofs.YtafhncpaoolljaaGreat.Fe
