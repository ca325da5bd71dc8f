/- The package curve: d, zero, the sum of two points. -/
import Derived.Test.YtafhncpaoolljaaGreatM26
import Derived.Test.YtafhncpaoolljaaGreatM28
namespace Go.Proofs.YtafhncpaoolljaaGreat.Fe
set_option maxRecDepth 100000
set_option linter.unusedVariables false
open Go Go.RowKit
def lf (f : Nat → Nat) : F := fv (lv f)
theorem mulV (a b : Nat → Nat) (ha : Lim 2 a) (hb : Lim 2 b) (w : World) : Calls Tryz.prog 58 #[.agg (ecell a), .agg (ecell b)] w fun e w' => ∃ h, e = .returned (.agg (ecell h)) ∧ Lim 2 h ∧ lf h = lf a * lf b ∧ Gr w w' :=
 (mul_any a b ha hb w).mono fun _ _ ⟨h, he, hl, hv, hg⟩ => ⟨h, he, hl, (fv_eq hv).trans (fv_mul _ _), hg⟩
theorem addV (a b : Nat → Nat) (ha : Lim 2 a) (hb : Lim 2 b) (w : World) : Calls Tryz.prog 61 #[.agg (ecell a), .agg (ecell b)] w fun e w' => ∃ h, e = .returned (.agg (ecell h)) ∧ Lim 2 h ∧ lf h = lf a + lf b ∧ Gr w w' :=
 (addm_any a b ha hb w).mono fun _ _ ⟨h, he, hl, hv, hg⟩ => ⟨h, he, hl, (fv_eq hv).trans (fv_add _ _), hg⟩
theorem subV (a b : Nat → Nat) (ha : Lim 2 a) (hb : Lim 2 b) (w : World) : Calls Tryz.prog 59 #[.agg (ecell a), .agg (ecell b)] w fun e w' => ∃ h, e = .returned (.agg (ecell h)) ∧ Lim 2 h ∧ lf h = lf a - lf b ∧ Gr w w' :=
 (subm_any a b ha hb w).mono fun _ _ ⟨h, he, hl, hv, hg⟩ => ⟨h, he, hl, by have e := fv_eq hv; rw [fv_add] at e; unfold lf; grind, hg⟩
def dE : Nat → Nat := ofN dN
theorem dE_lim : Lim 2 dE := (ofN_lim _).two
theorem dE_lf : lf dE = cd := by
 unfold lf dE cd
 rw [ofN_lv, Nat.mod_eq_of_lt]
 exact Nat.lt_of_lt_of_le dN_lt (by rw [fp_eq]; decide)
def dS : ByteArray := ⟨#[163, 120, 89, 19, 202, 77, 235, 117, 171, 216, 65, 65, 77, 10, 112, 0, 152, 232, 121, 119, 121, 64, 199, 140, 115, 254, 111, 43, 238, 108, 3, 82]⟩
theorem dS_num : num dS = dN := by rw [dN_eq]; decide +kernel
set_option maxRecDepth 100000 in
set_option maxHeartbeats 1000000 in
theorem d_any (w : World) : Calls Tryz.prog 60 #[] w fun e w' => e = .returned (.agg (ecell dE)) ∧ Gr w w' := by
 have hz := zeroE
 have g0 : (w.alloc (.cells z5 56)).heap[w.heap.size]? = some (.cells (ecell f0) 56 (0, 0)) := heap_alloc_new _ _
 have G0 := Box.mk g0; clear g0
 have hc := from_any dS (by rfl)
 rw [dS_num] at hc
 have HC := Box.mk hc; clear hc
 go_enter Tryz.func60, Tryz.ntmps60
 go_wp2_with fail
 refine (HC.out _).mono ?_
 rintro e w2 ⟨rfl, hg⟩
 have G2 := Box.mk ((Gr.of hg).block G0.out); have B2 := Box.mk ((Gr.alloc w _).trans (Gr.of hg)); clear hg
 go_wp2_with ((with_reducible refine wpList_storeE rfl (.tmp 0) (.tmp 1) rfl w.heap.size dE f0 G2.out ?_ ?_ ?_); rfl; rfl)
 refine bodyPost_ret (results_cell_row (p := 0) (ty := 56) rfl _ _ w.heap.size 56 (ecell dE) (0, 0) _ rfl (setRow_heap _ _ _ _ _ _ G2.out) Tryz.underlying56 rfl (by kernel_rfl)) rfl ⟨rfl, ?_⟩
 exact B2.out.setRow (Nat.le_refl _) _
structure PR (x y z t : Nat → Nat) (p : CP) : Prop where
 lx : Lim 2 x
 ly : Lim 2 y
 lz : Lim 2 z
 lt : Lim 2 t
 rep : Rep (lf x) (lf y) (lf z) p
 tt : lf t * lf z = lf x * lf y
theorem pr_t {x y z t : Nat → Nat} {p : CP} (h : PR x y z t p) : lf t = p.x * p.y * lf z := by
 have h1 := h.tt
 rw [h.rep.x, h.rep.y] at h1
 refine f_cancel h.rep.z ?_
 grind
theorem pa_c (x1 y1 x2 y2 a b d : F) : x1 * y1 * a * (x2 * y2 * b) * d = d * x1 * x2 * y1 * y2 * (a * b) := by grind
theorem pa_f (x1 y1 x2 y2 a b : F) : (x1 * a + y1 * a) * (x2 * b + y2 * b) - x1 * a * (x2 * b) - y1 * a * (y2 * b) = a * b * (x1 * y2 + y1 * x2) := by grind
theorem pa_i (x1 y1 x2 y2 a b : F) : y1 * a * (y2 * b) + x1 * a * (x2 * b) = a * b * (y1 * y2 + x1 * x2) := by grind
theorem pa_x (s u n m e k : F) (hn : n = 1 + k) (hm : m = 1 - k) (h : s * n = u) : e * u * (e - k * e) = s * ((e - k * e) * (e + k * e)) := by subst hn hm; rw [← h]; grind
theorem pa_y (s v n m e k : F) (hn : n = 1 + k) (hm : m = 1 - k) (h : s * m = v) : (e + k * e) * (e * v) = s * ((e - k * e) * (e + k * e)) := by subst hn hm; rw [← h]; grind
theorem pa_z (e k : F) : (e - k * e) * (e + k * e) = e * (1 - k) * (e * (1 + k)) := by grind
theorem pa_t (f g h i : F) : f * i * (g * h) = f * g * (h * i) := by grind
theorem PR.sum {x1 y1 z1 t1 x2 y2 z2 t2 : Nat → Nat} {p q : CP} (hp : PR x1 y1 z1 t1 p) (hq : PR x2 y2 z2 t2 q) {a b c e f g h i x y z t : Nat → Nat}
   (ha : lf a = lf x1 * lf x2) (hb : lf b = lf y1 * lf y2) (hc : lf c = lf t1 * lf t2 * cd) (he : lf e = lf z1 * lf z2) (hf : lf f = (lf x1 + lf y1) * (lf x2 + lf y2) - lf a - lf b)
   (hg : lf g = lf e - lf c) (hh : lf h = lf e + lf c) (hi : lf i = lf b + lf a) (hx : lf x = lf f * lf g) (hy : lf y = lf h * lf i) (hz : lf z = lf g * lf h) (ht : lf t = lf f * lf i)
   (l1 : Lim 2 x) (l2 : Lim 2 y) (l3 : Lim 2 z) (l4 : Lim 2 t) : PR x y z t (p.add q) := by
 have hn := np_ne p.on q.on
 have hm := nm_ne p.on q.on
 have ax := sx_mul p.on q.on
 have ay := sy_mul p.on q.on
 have hE := f_mul_ne hp.rep.z hq.rep.z
 rw [pr_t hp, pr_t hq, pa_c] at hc
 rw [hp.rep.x, hq.rep.x] at ha
 rw [hp.rep.y, hq.rep.y] at hb
 rw [hp.rep.x, hp.rep.y, hq.rep.x, hq.rep.y, ha, hb, pa_f] at hf
 rw [hb, ha, pa_i] at hi
 rw [← he] at hc hf hi hE
 unfold ck at hn hm ax ay
 rw [hc] at hg hh
 generalize lf e = E at hc hf hi hE hg hh
 have hz' : lf z = E * (1 - cd * p.x * q.x * p.y * q.y) * (E * (1 + cd * p.x * q.x * p.y * q.y)) := by rw [hz, hg, hh]; exact pa_z _ _
 refine ⟨l1, l2, l3, l4, ⟨?_, ?_, ?_⟩, ?_⟩
 · rw [hz']; exact f_mul_ne (f_mul_ne hE hm) (f_mul_ne hE hn)
 · rw [hx, hz, hf, hg, hh]; exact pa_x _ _ _ _ _ _ rfl rfl ax
 · rw [hy, hz, hi, hg, hh]; exact pa_y _ _ _ _ _ _ rfl rfl ay
 · rw [ht, hz, hx, hy]; exact pa_t _ _ _ _
theorem PR.zero : PR f0 (smF 1) (smF 1) f0 CP.zero := by
 have h0 : lf f0 = 0 := by unfold lf; rw [f0_lv]; rfl
 have h1 : lf (smF 1) = 1 := by unfold lf; rw [smF_lv]; rfl
 have l1 := (smF_lim 1 (by omega)).two
 refine ⟨f0_lim.two, l1, l1, f0_lim.two, ⟨by rw [h1]; exact one_ne, ?_, ?_⟩, rfl⟩
 · rw [h0, h1]; show (0 : F) = 0 * 1; grind
 · rw [h1]; show (1 : F) = 1 * 1; grind
set_option maxRecDepth 100000 in
set_option maxHeartbeats 1000000 in
theorem zero_any (w : World) : Calls Tryz.prog 30 #[] w fun e w' => e = .returned (.agg (pcell f0 (smF 1) (smF 1) f0)) ∧ Gr w w' := by
 have hz := zeroP
 obtain ⟨W0, hW0⟩ : ∃ W, W = w.alloc (.cells (pcell f0 f0 f0 f0) 58) := ⟨_, rfl⟩
 have g0 : W0.heap[w.heap.size]? = some (.cells (pcell f0 f0 f0 f0) 58 (0, 0)) := by rw [hW0]; exact heap_alloc_new _ _
 have G0 := Box.mk g0; have B0 := Box.mk (show Gr w W0 from by rw [hW0]; exact Gr.alloc _ _); clear g0
 go_enter Tryz.func30, Tryz.ntmps30
 go_upto_region 1 with (fail)
 rw [← hW0]
 clear hW0 hz
 refine wp_region_seq 3 [.cha, .cha, .flo] (by rfl) rfl (by decide) ?_
 simp only [List.take, List.zip, List.zipWith]
 refine gm_call [.int .u64 1] (by kernel_rfl) rfl rfl Stb.tt (fun w1 hw1 _ => (small_any 1 (by omega) w1).mono ?_)
 rintro e w2 ⟨rfl, hw2⟩
 refine ⟨_, rfl, hw2, ?_⟩
 refine gm_call [.int .u64 1] (by kernel_rfl) rfl rfl Stb.tt (fun w1 hw1 _ => (small_any 1 (by omega) w1).mono ?_)
 rintro e w2 ⟨rfl, hw2⟩
 refine ⟨_, rfl, hw2, ?_⟩
 refine gm_build [(1, .agg (ecell (smF 1))), (2, .agg (ecell (smF 1)))] rfl rfl _ (build2 (smF 1) (smF 1)) ?_
 refine gm_nil ?_
 intro w7 hw7 _
 simp only [List.drop]
 go_frame
 replace G0 := Box.mk (hw7.block G0.out); replace B0 := Box.mk (B0.out.trans hw7)
 clear hw7
 go_wp2_with ((with_reducible refine wpList_storeP rfl (.tmp 0) (.tmp 3) rfl w.heap.size f0 (smF 1) (smF 1) f0 (pcell f0 f0 f0 f0) rfl G0.out ?_ ?_ ?_); rfl; rfl)
 refine bodyPost_ret (results_cell_row (p := 0) (ty := 58) rfl _ _ w.heap.size 58 (pcell f0 (smF 1) (smF 1) f0) (0, 0) _ rfl (setRow_heap _ _ _ _ _ _ G0.out) Tryz.underlying58 rfl (by kernel_rfl)) rfl ⟨rfl, ?_⟩
 exact B0.out.setRow (Nat.le_refl _) _
set_option maxRecDepth 100000 in
set_option maxHeartbeats 8000000 in
theorem padd_any {x1 y1 z1 t1 x2 y2 z2 t2 : Nat → Nat} {p q : CP} (hp : PR x1 y1 z1 t1 p) (hq : PR x2 y2 z2 t2 q) (w : World) :
   Calls Tryz.prog 31 #[.agg (pcell x1 y1 z1 t1), .agg (pcell x2 y2 z2 t2)] w fun e w' => ∃ x y z t, e = .returned (.agg (pcell x y z t)) ∧ PR x y z t (p.add q) ∧ Gr w w' := by
 have hz := zeroP
 obtain ⟨W0, hW0⟩ : ∃ W, W = ((w.alloc (.cells (pcell x1 y1 z1 t1) 58)).alloc (.cells (pcell x2 y2 z2 t2) 58)).alloc (.cells (pcell f0 f0 f0 f0) 58) := ⟨_, rfl⟩
 have g0 : W0.heap[w.heap.size]? = some (.cells (pcell x1 y1 z1 t1) 58 (0, 0)) := by rw [hW0, heap_alloc_old _ _ (by simp <;> omega), heap_alloc_old _ _ (by simp)]; exact heap_alloc_new _ _
 have g1 : W0.heap[w.heap.size + 1]? = some (.cells (pcell x2 y2 z2 t2) 58 (0, 0)) := by
   have := heap_alloc_new (w.alloc (.cells (pcell x1 y1 z1 t1) 58)) (.cells (pcell x2 y2 z2 t2) 58)
   rw [World.size_alloc] at this
   rw [hW0, heap_alloc_old _ _ (by simp)]; exact this
 have g2 : W0.heap[w.heap.size + 2]? = some (.cells (pcell f0 f0 f0 f0) 58 (0, 0)) := by
   have := heap_alloc_new ((w.alloc (.cells (pcell x1 y1 z1 t1) 58)).alloc (.cells (pcell x2 y2 z2 t2) 58)) (.cells (pcell f0 f0 f0 f0) 58)
   rw [World.size_alloc, World.size_alloc] at this
   rw [hW0]; exact this
 have b0 : Gr w W0 := by rw [hW0]; exact ((Gr.alloc _ _).trans (Gr.alloc _ _)).trans (Gr.alloc _ _)
 obtain ⟨bp, hbp⟩ : ∃ b, b = w.heap.size := ⟨_, rfl⟩
 obtain ⟨bq, hbq⟩ : ∃ b, b = w.heap.size + 1 := ⟨_, rfl⟩
 obtain ⟨br, hbr⟩ : ∃ b, b = w.heap.size + 2 := ⟨_, rfl⟩
 have hgr : w.heap.size ≤ br := by omega
 rw [← hbp] at g0; rw [← hbq] at g1; rw [← hbr] at g2
 have GP := Box.mk g0; have GQ := Box.mk g1; have GR := Box.mk g2; have B0 := Box.mk b0; have HP := Box.mk hp; have HQ := Box.mk hq
 clear g0 g1 g2 b0 hp hq
 go_enter Tryz.func31, Tryz.ntmps31
 go_upto_region 1 with (fail)
 rw [← hW0, show w.heap.size + 1 + 1 = w.heap.size + 2 from rfl, ← hbr, ← hbq, ← hbp]
 clear hW0 hz hbr hbq hbp
 refine wp_region_seq 6 [.flo, .flo, .flo, .flo, .cha, .new (.cells (ecell f0) 56)] (by rfl) rfl (by decide) ?_
 simp only [List.take, List.zip, List.zipWith]
 refine gm_field 0 0 (.tmp 2) rfl bp rfl (field0 bp) ?_
 try go_frame
 refine gm_loadF (.tmp 13) rfl bp 0 x1 (pcell x1 y1 z1 t1) GP.out (sub_x _ _ _ _) rfl ?_
 try go_frame
 refine gm_field 0 0 (.tmp 3) rfl bq rfl (field0 bq) ?_
 try go_frame
 refine gm_loadF (.tmp 15) rfl bq 0 x2 (pcell x2 y2 z2 t2) GQ.out (sub_x _ _ _ _) rfl ?_
 try go_frame
 refine gm_call [.agg (ecell x1), .agg (ecell x2)] (by kernel_rfl) rfl rfl Stb.tt (fun w1 hw1 _ => (mulV x1 x2 HP.out.lx HQ.out.lx w1).mono ?_)
 rintro e w2 ⟨a, rfl, hl, hv, hw2⟩
 refine ⟨_, rfl, hw2, ?_⟩
 try go_frame
 have La := Box.mk hl; have Va := Box.mk hv
 clear hl hv
 refine gm_alloc rfl (.cells (ecell f0) 56) (fun _ => by kernel_rfl) (fun ba hba hneba => ?_)
 try go_frame
 refine gm_nil ?_
 intro w7 hw7 hF7
 simp only [List.drop]
 try go_frame
 have hf0 := hF7.2
 have HN0 := Box.mk (show w7.heap[ba]? = some (.cells (ecell f0) 56 (0, 0)) from by exact hf0)
 obtain ⟨W1, hWn⟩ : ∃ W, W = (w7.setRow ba (ecell a)) := ⟨_, rfl⟩
 go_upto_region 2 with (first
   | ((with_reducible refine wpList_storeE rfl (.tmp 5) (.tmp 17) rfl ba a f0 HN0.out ?_ ?_ ?_); rfl; rfl))
 try go_frame
 rw [← hWn]
 have hgn : Gr W0 W1 := by rw [hWn]; exact (hw7.setRow hba _)
 replace GP := Box.mk (hgn.block GP.out)
 replace GQ := Box.mk (hgn.block GQ.out)
 replace GR := Box.mk (hgn.block GR.out)
 have Ga := Box.mk (show W1.heap[ba]? = some (.cells (ecell a) 56 (0, 0)) from by rw [hWn]; exact setRow_heap _ _ _ _ _ _ HN0.out)
 replace B0 := Box.mk (B0.out.trans hgn)
 clear hWn hgn hF7 hw7 HN0 hf0 hba hneba
 refine wp_region_seq 6 [.flo, .flo, .flo, .flo, .cha, .new (.cells (ecell f0) 56)] (by rfl) rfl (by decide) ?_
 simp only [List.take, List.zip, List.zipWith]
 refine gm_field 1 5 (.tmp 2) rfl bp rfl (field1 bp) ?_
 try go_frame
 refine gm_loadF (.tmp 18) rfl bp 5 y1 (pcell x1 y1 z1 t1) GP.out (sub_y _ _ _ _) rfl ?_
 try go_frame
 refine gm_field 1 5 (.tmp 3) rfl bq rfl (field1 bq) ?_
 try go_frame
 refine gm_loadF (.tmp 20) rfl bq 5 y2 (pcell x2 y2 z2 t2) GQ.out (sub_y _ _ _ _) rfl ?_
 try go_frame
 refine gm_call [.agg (ecell y1), .agg (ecell y2)] (by kernel_rfl) rfl rfl Stb.tt (fun w1 hw1 _ => (mulV y1 y2 HP.out.ly HQ.out.ly w1).mono ?_)
 rintro e w2 ⟨b, rfl, hl, hv, hw2⟩
 refine ⟨_, rfl, hw2, ?_⟩
 try go_frame
 have Lb := Box.mk hl; have Vb := Box.mk hv
 clear hl hv
 refine gm_alloc rfl (.cells (ecell f0) 56) (fun _ => by kernel_rfl) (fun bb hbb hnebb => ?_)
 try go_frame
 refine gm_nil ?_
 intro w7 hw7 hF7
 simp only [List.drop]
 try go_frame
 have hf0 := hF7.2
 have HN0 := Box.mk (show w7.heap[bb]? = some (.cells (ecell f0) 56 (0, 0)) from by exact hf0)
 obtain ⟨W2, hWn⟩ : ∃ W, W = (w7.setRow bb (ecell b)) := ⟨_, rfl⟩
 go_upto_region 3 with (first
   | ((with_reducible refine wpList_storeE rfl (.tmp 6) (.tmp 22) rfl bb b f0 HN0.out ?_ ?_ ?_); rfl; rfl))
 try go_frame
 rw [← hWn]
 have hgn : Gr W1 W2 := by rw [hWn]; exact (hw7.setRow hbb _)
 replace GP := Box.mk (hgn.block GP.out)
 replace GQ := Box.mk (hgn.block GQ.out)
 replace GR := Box.mk (hgn.block GR.out)
 replace Ga := Box.mk (hgn.block Ga.out)
 have Gb := Box.mk (show W2.heap[bb]? = some (.cells (ecell b) 56 (0, 0)) from by rw [hWn]; exact setRow_heap _ _ _ _ _ _ HN0.out)
 replace B0 := Box.mk (B0.out.trans hgn)
 clear hWn hgn hF7 hw7 HN0 hf0 hbb hnebb
 refine wp_region_seq 8 [.flo, .flo, .flo, .flo, .cha, .cha, .cha, .new (.cells (ecell f0) 56)] (by rfl) rfl (by decide) ?_
 simp only [List.take, List.zip, List.zipWith]
 refine gm_field 3 15 (.tmp 2) rfl bp rfl (field3 bp) ?_
 try go_frame
 refine gm_loadF (.tmp 23) rfl bp 15 t1 (pcell x1 y1 z1 t1) GP.out (sub_t _ _ _ _) rfl ?_
 try go_frame
 refine gm_field 3 15 (.tmp 3) rfl bq rfl (field3 bq) ?_
 try go_frame
 refine gm_loadF (.tmp 25) rfl bq 15 t2 (pcell x2 y2 z2 t2) GQ.out (sub_t _ _ _ _) rfl ?_
 try go_frame
 refine gm_call [.agg (ecell t1), .agg (ecell t2)] (by kernel_rfl) rfl rfl Stb.tt (fun w1 hw1 _ => (mulV t1 t2 HP.out.lt HQ.out.lt w1).mono ?_)
 rintro e w2 ⟨c0, rfl, hl, hv, hw2⟩
 refine ⟨_, rfl, hw2, ?_⟩
 try go_frame
 have Lc0 := Box.mk hl; have Vc0 := Box.mk hv
 clear hl hv
 refine gm_call [] (by kernel_rfl) rfl rfl Stb.tt (fun w1 hw1 _ => (d_any w1).mono ?_)
 rintro e w2 ⟨rfl, hw2⟩
 refine ⟨_, rfl, hw2, ?_⟩
 try go_frame
 refine gm_call [.agg (ecell c0), .agg (ecell dE)] (by kernel_rfl) rfl rfl Stb.tt (fun w1 hw1 _ => (mulV c0 dE Lc0.out dE_lim w1).mono ?_)
 rintro e w2 ⟨c, rfl, hl, hv, hw2⟩
 refine ⟨_, rfl, hw2, ?_⟩
 try go_frame
 have Lc := Box.mk hl; have Vc := Box.mk hv
 clear hl hv
 refine gm_alloc rfl (.cells (ecell f0) 56) (fun _ => by kernel_rfl) (fun bc hbc hnebc => ?_)
 try go_frame
 refine gm_nil ?_
 intro w7 hw7 hF7
 simp only [List.drop]
 try go_frame
 have hf0 := hF7.2
 have HN0 := Box.mk (show w7.heap[bc]? = some (.cells (ecell f0) 56 (0, 0)) from by exact hf0)
 obtain ⟨W3, hWn⟩ : ∃ W, W = (w7.setRow bc (ecell c)) := ⟨_, rfl⟩
 go_upto_region 4 with (first
   | ((with_reducible refine wpList_storeE rfl (.tmp 7) (.tmp 29) rfl bc c f0 HN0.out ?_ ?_ ?_); rfl; rfl))
 try go_frame
 rw [← hWn]
 have hgn : Gr W2 W3 := by rw [hWn]; exact (hw7.setRow hbc _)
 replace GP := Box.mk (hgn.block GP.out)
 replace GQ := Box.mk (hgn.block GQ.out)
 replace GR := Box.mk (hgn.block GR.out)
 replace Ga := Box.mk (hgn.block Ga.out)
 replace Gb := Box.mk (hgn.block Gb.out)
 have Gc := Box.mk (show W3.heap[bc]? = some (.cells (ecell c) 56 (0, 0)) from by rw [hWn]; exact setRow_heap _ _ _ _ _ _ HN0.out)
 replace B0 := Box.mk (B0.out.trans hgn)
 clear hWn hgn hF7 hw7 HN0 hf0 hbc hnebc
 refine wp_region_seq 6 [.flo, .flo, .flo, .flo, .cha, .new (.cells (ecell f0) 56)] (by rfl) rfl (by decide) ?_
 simp only [List.take, List.zip, List.zipWith]
 refine gm_field 2 10 (.tmp 2) rfl bp rfl (field2 bp) ?_
 try go_frame
 refine gm_loadF (.tmp 30) rfl bp 10 z1 (pcell x1 y1 z1 t1) GP.out (sub_z _ _ _ _) rfl ?_
 try go_frame
 refine gm_field 2 10 (.tmp 3) rfl bq rfl (field2 bq) ?_
 try go_frame
 refine gm_loadF (.tmp 32) rfl bq 10 z2 (pcell x2 y2 z2 t2) GQ.out (sub_z _ _ _ _) rfl ?_
 try go_frame
 refine gm_call [.agg (ecell z1), .agg (ecell z2)] (by kernel_rfl) rfl rfl Stb.tt (fun w1 hw1 _ => (mulV z1 z2 HP.out.lz HQ.out.lz w1).mono ?_)
 rintro e w2 ⟨e, rfl, hl, hv, hw2⟩
 refine ⟨_, rfl, hw2, ?_⟩
 try go_frame
 have Le := Box.mk hl; have Ve := Box.mk hv
 clear hl hv
 refine gm_alloc rfl (.cells (ecell f0) 56) (fun _ => by kernel_rfl) (fun be hbe hnebe => ?_)
 try go_frame
 refine gm_nil ?_
 intro w7 hw7 hF7
 simp only [List.drop]
 try go_frame
 have hf0 := hF7.2
 have HN0 := Box.mk (show w7.heap[be]? = some (.cells (ecell f0) 56 (0, 0)) from by exact hf0)
 obtain ⟨W4, hWn⟩ : ∃ W, W = (w7.setRow be (ecell e)) := ⟨_, rfl⟩
 go_upto_region 5 with (first
   | ((with_reducible refine wpList_storeE rfl (.tmp 8) (.tmp 34) rfl be e f0 HN0.out ?_ ?_ ?_); rfl; rfl))
 try go_frame
 rw [← hWn]
 have hgn : Gr W3 W4 := by rw [hWn]; exact (hw7.setRow hbe _)
 replace GP := Box.mk (hgn.block GP.out)
 replace GQ := Box.mk (hgn.block GQ.out)
 replace GR := Box.mk (hgn.block GR.out)
 replace Ga := Box.mk (hgn.block Ga.out)
 replace Gb := Box.mk (hgn.block Gb.out)
 replace Gc := Box.mk (hgn.block Gc.out)
 have Ge := Box.mk (show W4.heap[be]? = some (.cells (ecell e) 56 (0, 0)) from by rw [hWn]; exact setRow_heap _ _ _ _ _ _ HN0.out)
 replace B0 := Box.mk (B0.out.trans hgn)
 clear hWn hgn hF7 hw7 HN0 hf0 hbe hnebe
 refine wp_region_mix 16 [.flo, .flo, .flo, .flo, .cha, .flo, .flo, .flo, .flo, .cha, .cha, .flo, .cha, .flo, .cha, .new (.cells (ecell f0) 56)] (by kernel_rfl) (by kernel_rfl) rfl ?_
 simp only [List.take, List.zip, List.zipWith]
 refine gm_field 0 0 (.tmp 2) rfl bp rfl (field0 bp) ?_
 try go_frame
 refine gm_loadF (.tmp 35) rfl bp 0 x1 (pcell x1 y1 z1 t1) GP.out (sub_x _ _ _ _) rfl ?_
 try go_frame
 refine gm_field 1 5 (.tmp 2) rfl bp rfl (field1 bp) ?_
 try go_frame
 refine gm_loadF (.tmp 37) rfl bp 5 y1 (pcell x1 y1 z1 t1) GP.out (sub_y _ _ _ _) rfl ?_
 try go_frame
 refine gm_call [.agg (ecell x1), .agg (ecell y1)] (by kernel_rfl) rfl rfl Stb.tt (fun w1 hw1 _ => (addV x1 y1 HP.out.lx HP.out.ly w1).mono ?_)
 rintro e w2 ⟨f1, rfl, hl, hv, hw2⟩
 refine ⟨_, rfl, hw2, ?_⟩
 try go_frame
 have Lf1 := Box.mk hl; have Vf1 := Box.mk hv
 clear hl hv
 refine gm_field 0 0 (.tmp 3) rfl bq rfl (field0 bq) ?_
 try go_frame
 refine gm_loadF (.tmp 40) rfl bq 0 x2 (pcell x2 y2 z2 t2) GQ.out (sub_x _ _ _ _) rfl ?_
 try go_frame
 refine gm_field 1 5 (.tmp 3) rfl bq rfl (field1 bq) ?_
 try go_frame
 refine gm_loadF (.tmp 42) rfl bq 5 y2 (pcell x2 y2 z2 t2) GQ.out (sub_y _ _ _ _) rfl ?_
 try go_frame
 refine gm_call [.agg (ecell x2), .agg (ecell y2)] (by kernel_rfl) rfl rfl Stb.tt (fun w1 hw1 _ => (addV x2 y2 HQ.out.lx HQ.out.ly w1).mono ?_)
 rintro e w2 ⟨f2, rfl, hl, hv, hw2⟩
 refine ⟨_, rfl, hw2, ?_⟩
 try go_frame
 have Lf2 := Box.mk hl; have Vf2 := Box.mk hv
 clear hl hv
 refine gm_call [.agg (ecell f1), .agg (ecell f2)] (by kernel_rfl) rfl rfl Stb.tt (fun w1 hw1 _ => (mulV f1 f2 Lf1.out Lf2.out w1).mono ?_)
 rintro e w2 ⟨f3, rfl, hl, hv, hw2⟩
 refine ⟨_, rfl, hw2, ?_⟩
 try go_frame
 have Lf3 := Box.mk hl; have Vf3 := Box.mk hv
 clear hl hv
 refine gm_loadE (.tmp 5) rfl ba a Ga.out rfl ?_
 try go_frame
 refine gm_call [.agg (ecell f3), .agg (ecell a)] (by kernel_rfl) rfl rfl Stb.tt (fun w1 hw1 _ => (subV f3 a Lf3.out La.out w1).mono ?_)
 rintro e w2 ⟨f4, rfl, hl, hv, hw2⟩
 refine ⟨_, rfl, hw2, ?_⟩
 try go_frame
 have Lf4 := Box.mk hl; have Vf4 := Box.mk hv
 clear hl hv
 refine gm_loadE (.tmp 6) rfl bb b Gb.out rfl ?_
 try go_frame
 refine gm_call [.agg (ecell f4), .agg (ecell b)] (by kernel_rfl) rfl rfl Stb.tt (fun w1 hw1 _ => (subV f4 b Lf4.out Lb.out w1).mono ?_)
 rintro e w2 ⟨f, rfl, hl, hv, hw2⟩
 refine ⟨_, rfl, hw2, ?_⟩
 try go_frame
 have Lf := Box.mk hl; have Vf := Box.mk hv
 clear hl hv
 refine gm_alloc rfl (.cells (ecell f0) 56) (fun _ => by kernel_rfl) (fun bf hbf hnebf => ?_)
 try go_frame
 refine gm_nil ?_
 intro w7 hw7 hF7
 simp only [List.drop]
 try go_frame
 have hf0 := hF7.2
 have HN0 := Box.mk (show w7.heap[bf]? = some (.cells (ecell f0) 56 (0, 0)) from by exact hf0)
 obtain ⟨W5, hWn⟩ : ∃ W, W = (w7.setRow bf (ecell f)) := ⟨_, rfl⟩
 go_upto_region 6 with (first
   | ((with_reducible refine wpList_storeE rfl (.tmp 9) (.tmp 49) rfl bf f f0 HN0.out ?_ ?_ ?_); rfl; rfl))
 try go_frame
 rw [← hWn]
 have hgn : Gr W4.drew W5 := by rw [hWn]; exact (hw7.setRow hbf _)
 replace GP := Box.mk (hgn.block GP.out)
 replace GQ := Box.mk (hgn.block GQ.out)
 replace GR := Box.mk (hgn.block GR.out)
 replace Ga := Box.mk (hgn.block Ga.out)
 replace Gb := Box.mk (hgn.block Gb.out)
 replace Gc := Box.mk (hgn.block Gc.out)
 replace Ge := Box.mk (hgn.block Ge.out)
 have Gf := Box.mk (show W5.heap[bf]? = some (.cells (ecell f) 56 (0, 0)) from by rw [hWn]; exact setRow_heap _ _ _ _ _ _ HN0.out)
 replace B0 := Box.mk (B0.out.trans (Gr.trans (show Gr W4 W4.drew from (Below.refl _ _).drew) hgn))
 clear hWn hgn hF7 hw7 HN0 hf0 hbf hnebf
 refine wp_region_mix 12 [.flo, .flo, .cha, .flo, .flo, .cha, .flo, .flo, .cha, .new (.cells (ecell f0) 56), .new (.cells (ecell f0) 56), .new (.cells (ecell f0) 56)] (by kernel_rfl) (by kernel_rfl) rfl ?_
 simp only [List.take, List.zip, List.zipWith]
 refine gm_loadE (.tmp 8) rfl be e Ge.out rfl ?_
 try go_frame
 refine gm_loadE (.tmp 7) rfl bc c Gc.out rfl ?_
 try go_frame
 refine gm_call [.agg (ecell e), .agg (ecell c)] (by kernel_rfl) rfl rfl Stb.tt (fun w1 hw1 _ => (subV e c Le.out Lc.out w1).mono ?_)
 rintro e w2 ⟨g, rfl, hl, hv, hw2⟩
 refine ⟨_, rfl, hw2, ?_⟩
 try go_frame
 have Lg := Box.mk hl; have Vg := Box.mk hv
 clear hl hv
 refine gm_loadE (.tmp 8) rfl be e Ge.out rfl ?_
 try go_frame
 refine gm_loadE (.tmp 7) rfl bc c Gc.out rfl ?_
 try go_frame
 refine gm_call [.agg (ecell e), .agg (ecell c)] (by kernel_rfl) rfl rfl Stb.tt (fun w1 hw1 _ => (addV e c Le.out Lc.out w1).mono ?_)
 rintro e w2 ⟨h, rfl, hl, hv, hw2⟩
 refine ⟨_, rfl, hw2, ?_⟩
 try go_frame
 have Lh := Box.mk hl; have Vh := Box.mk hv
 clear hl hv
 refine gm_loadE (.tmp 6) rfl bb b Gb.out rfl ?_
 try go_frame
 refine gm_loadE (.tmp 5) rfl ba a Ga.out rfl ?_
 try go_frame
 refine gm_call [.agg (ecell b), .agg (ecell a)] (by kernel_rfl) rfl rfl Stb.tt (fun w1 hw1 _ => (addV b a Lb.out La.out w1).mono ?_)
 rintro e w2 ⟨i, rfl, hl, hv, hw2⟩
 refine ⟨_, rfl, hw2, ?_⟩
 try go_frame
 have Li := Box.mk hl; have Vi := Box.mk hv
 clear hl hv
 refine gm_alloc rfl (.cells (ecell f0) 56) (fun _ => by kernel_rfl) (fun bg hbg hnebg => ?_)
 try go_frame
 refine gm_alloc rfl (.cells (ecell f0) 56) (fun _ => by kernel_rfl) (fun bh hbh hnebh => ?_)
 try go_frame
 refine gm_alloc rfl (.cells (ecell f0) 56) (fun _ => by kernel_rfl) (fun bi hbi hnebi => ?_)
 try go_frame
 refine gm_nil ?_
 intro w7 hw7 hF7
 simp only [List.drop]
 try go_frame
 have hf2 := hF7.2
 have hf1 := hF7.1.2
 have hf0 := hF7.1.1.2
 have hd10 : bh ≠ bg := fun h => hnebh (by rw [h]; simp)
 have hd01 : bg ≠ bh := Ne.symm hd10
 have hd20 : bi ≠ bg := fun h => hnebi (by rw [h]; simp)
 have hd02 : bg ≠ bi := Ne.symm hd20
 have hd21 : bi ≠ bh := fun h => hnebi (by rw [h]; simp)
 have hd12 : bh ≠ bi := Ne.symm hd21
 have HN0 := Box.mk (show w7.heap[bg]? = some (.cells (ecell f0) 56 (0, 0)) from by exact hf0)
 have HN1 := Box.mk (show (w7.setRow bg (ecell g)).heap[bh]? = some (.cells (ecell f0) 56 (0, 0)) from by rw [setRow_other _ _ _ _ hd10]; exact hf1)
 have HN2 := Box.mk (show ((w7.setRow bg (ecell g)).setRow bh (ecell h)).heap[bi]? = some (.cells (ecell f0) 56 (0, 0)) from by rw [setRow_other _ _ _ _ hd21]; rw [setRow_other _ _ _ _ hd20]; exact hf2)
 obtain ⟨W6, hWn⟩ : ∃ W, W = (((w7.setRow bg (ecell g)).setRow bh (ecell h)).setRow bi (ecell i)) := ⟨_, rfl⟩
 go_upto_region 7 with (first
   | ((with_reducible refine wpList_storeE rfl (.tmp 10) (.tmp 52) rfl bg g f0 HN0.out ?_ ?_ ?_); rfl; rfl)
   | ((with_reducible refine wpList_storeE rfl (.tmp 11) (.tmp 55) rfl bh h f0 HN1.out ?_ ?_ ?_); rfl; rfl)
   | ((with_reducible refine wpList_storeE rfl (.tmp 12) (.tmp 58) rfl bi i f0 HN2.out ?_ ?_ ?_); rfl; rfl))
 try go_frame
 rw [← hWn]
 have hgn : Gr W5.drew W6 := by rw [hWn]; exact (((hw7.setRow hbg _).setRow hbh _).setRow hbi _)
 replace GP := Box.mk (hgn.block GP.out)
 replace GQ := Box.mk (hgn.block GQ.out)
 replace GR := Box.mk (hgn.block GR.out)
 replace Ga := Box.mk (hgn.block Ga.out)
 replace Gb := Box.mk (hgn.block Gb.out)
 replace Gc := Box.mk (hgn.block Gc.out)
 replace Ge := Box.mk (hgn.block Ge.out)
 replace Gf := Box.mk (hgn.block Gf.out)
 have Gg := Box.mk (show W6.heap[bg]? = some (.cells (ecell g) 56 (0, 0)) from by rw [hWn]; rw [setRow_other _ _ _ _ hd02]; rw [setRow_other _ _ _ _ hd01]; exact setRow_heap _ _ _ _ _ _ HN0.out)
 have Gh := Box.mk (show W6.heap[bh]? = some (.cells (ecell h) 56 (0, 0)) from by rw [hWn]; rw [setRow_other _ _ _ _ hd12]; exact setRow_heap _ _ _ _ _ _ HN1.out)
 have Gi := Box.mk (show W6.heap[bi]? = some (.cells (ecell i) 56 (0, 0)) from by rw [hWn]; exact setRow_heap _ _ _ _ _ _ HN2.out)
 replace B0 := Box.mk (B0.out.trans (Gr.trans (show Gr W5 W5.drew from (Below.refl _ _).drew) hgn))
 clear hWn hgn hF7 hw7 HN0 hf0 hbg hnebg HN1 hf1 hbh hnebh HN2 hf2 hbi hnebi
 refine wp_region_mix 13 [.flo, .flo, .cha, .flo, .flo, .cha, .flo, .flo, .cha, .flo, .flo, .cha, .flo] (by kernel_rfl) (by kernel_rfl) rfl ?_
 simp only [List.take, List.zip, List.zipWith]
 refine gm_loadE (.tmp 9) rfl bf f Gf.out rfl ?_
 try go_frame
 refine gm_loadE (.tmp 10) rfl bg g Gg.out rfl ?_
 try go_frame
 refine gm_call [.agg (ecell f), .agg (ecell g)] (by kernel_rfl) rfl rfl Stb.tt (fun w1 hw1 _ => (mulV f g Lf.out Lg.out w1).mono ?_)
 rintro e w2 ⟨x, rfl, hl, hv, hw2⟩
 refine ⟨_, rfl, hw2, ?_⟩
 try go_frame
 have Lx := Box.mk hl; have Vx := Box.mk hv
 clear hl hv
 refine gm_loadE (.tmp 11) rfl bh h Gh.out rfl ?_
 try go_frame
 refine gm_loadE (.tmp 12) rfl bi i Gi.out rfl ?_
 try go_frame
 refine gm_call [.agg (ecell h), .agg (ecell i)] (by kernel_rfl) rfl rfl Stb.tt (fun w1 hw1 _ => (mulV h i Lh.out Li.out w1).mono ?_)
 rintro e w2 ⟨y, rfl, hl, hv, hw2⟩
 refine ⟨_, rfl, hw2, ?_⟩
 try go_frame
 have Ly := Box.mk hl; have Vy := Box.mk hv
 clear hl hv
 refine gm_loadE (.tmp 10) rfl bg g Gg.out rfl ?_
 try go_frame
 refine gm_loadE (.tmp 11) rfl bh h Gh.out rfl ?_
 try go_frame
 refine gm_call [.agg (ecell g), .agg (ecell h)] (by kernel_rfl) rfl rfl Stb.tt (fun w1 hw1 _ => (mulV g h Lg.out Lh.out w1).mono ?_)
 rintro e w2 ⟨z, rfl, hl, hv, hw2⟩
 refine ⟨_, rfl, hw2, ?_⟩
 try go_frame
 have Lz := Box.mk hl; have Vz := Box.mk hv
 clear hl hv
 refine gm_loadE (.tmp 9) rfl bf f Gf.out rfl ?_
 try go_frame
 refine gm_loadE (.tmp 12) rfl bi i Gi.out rfl ?_
 try go_frame
 refine gm_call [.agg (ecell f), .agg (ecell i)] (by kernel_rfl) rfl rfl Stb.tt (fun w1 hw1 _ => (mulV f i Lf.out Li.out w1).mono ?_)
 rintro e w2 ⟨t, rfl, hl, hv, hw2⟩
 refine ⟨_, rfl, hw2, ?_⟩
 try go_frame
 have Lt := Box.mk hl; have Vt := Box.mk hv
 clear hl hv
 refine gm_build [(0, .agg (ecell x)), (1, .agg (ecell y)), (2, .agg (ecell z)), (3, .agg (ecell t))] rfl rfl _ (build4 x y z t) ?_
 try go_frame
 refine gm_nil ?_
 intro w7 hw7 _
 simp only [List.drop]
 try go_frame
 replace GR := Box.mk (hw7.block GR.out); replace B0 := Box.mk (B0.out.trans (Gr.trans (show Gr W6 W6.drew from (Below.refl _ _).drew) hw7))
 clear hw7
 go_wp2_with ((with_reducible refine wpList_storeP rfl (.tmp 4) (.tmp 71) rfl br x y z t (pcell f0 f0 f0 f0) rfl GR.out ?_ ?_ ?_); rfl; rfl)
 refine bodyPost_ret (results_cell_row (p := 4) (ty := 58) rfl _ _ br 58 (pcell x y z t) (0, 0) _ rfl (setRow_heap _ _ _ _ _ _ GR.out) Tryz.underlying58 rfl (by kernel_rfl)) rfl ⟨x, y, z, t, rfl, ?_, B0.out.setRow hgr _⟩
 exact PR.sum HP.out HQ.out Va.out Vb.out (by rw [Vc.out, Vc0.out, dE_lf]) Ve.out (by rw [Vf.out, Vf4.out, Vf3.out, Vf1.out, Vf2.out]) Vg.out Vh.out Vi.out Vx.out Vy.out Vz.out Vt.out Lx.out Ly.out Lz.out Lt.out
end Go.Proofs.YtafhncpaoolljaaGreat.Fe
