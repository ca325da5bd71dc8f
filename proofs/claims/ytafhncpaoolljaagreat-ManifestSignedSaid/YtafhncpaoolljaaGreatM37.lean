/- The document of the package curve: a point's bytes; a point so many times. The document of the package curve: its calls. The document's answer on scalars: Is, Reduce. Plain laws of numbers in base 256 (the same as of words of 64 bits). The document's answer on scalars: Add, Mul. The document's answer on scalars: Mul. -/
import Derived.Test.YtafhncpaoolljaaGreatM35
import Derived.Test.YtafhncpaoolljaaGreatM30
import Derived.Test.YtafhncpaoolljaaGreatM36
import Derived.Test.YtafhncpaoolljaaGreatM33
import Derived.Test.YtafhncpaoolljaaGreatM34
import Derived.Test.YtafhncpaoolljaaGreatM14
namespace Go.Proofs.YtafhncpaoolljaaGreat.Fe
set_option maxRecDepth 100000
set_option linter.unusedVariables false
open Go Go.RowKit
theorem wpList_loadQ {ops : Array Oper} {rest : List Oper} {o : Oper} {a : Act} {w : World} {Q : Exit → Act → World → Prop} (hgd : o.guard = none) (p : Operand) (ho : o.op = .load 96 p)
   (g : Nat) (cs : Array Value) (hsz : cs.size = 48) (hg : w.heap[g]? = some (.cells cs 96 (0, 0))) (hx : a.eval p = .pointer (some ⟨g, 0, none⟩))
   (h : wpList Tryz.prog ops Q rest (a.put o.dst (.agg cs)) w) : wpList Tryz.prog ops Q (o :: rest) a w :=
 wpList_load_row hgd 96 p ho g hx 96 cs (0, 0) _ hg Tryz.underlying96 rfl (by rw [hsz]; kernel_rfl) h
def QAt (w : World) (b : Nat) (p : CP) : Prop := ∃ X Y Z : F, w.heap[b]? = some (.cells (qcell (qd X) (qd Y) (qd Z)) 96 (0, 0)) ∧ Rep X Y Z p
theorem Rep.zero1 : Rep 0 1 1 CP.zero := ⟨one_ne, by show (0 : F) = 0 * 1; grind, by show (1 : F) = 1 * 1; grind⟩
theorem set_top (y b : Nat) (h : y < 2 ^ 255) (hb : b < 2) : (⟨((leList 32 y).set 31 (UInt8.ofNat (y / 256 ^ 31 % 256 + 128 * b))).toArray⟩ : ByteArray) = sbytes (y + 2 ^ 255 * b) := by
 have hq : y / 256 ^ 31 < 128 := by omega
 have hg := leList_get 32 y 31 (by omega)
 have hs := leNat_set (leList 32 y) 31 _ (UInt8.ofNat (y / 256 ^ 31 % 256 + 128 * b)) hg
 have e1 : (UInt8.ofNat (y / 256 ^ 31 % 256)).toNat = y / 256 ^ 31 := by rw [UInt8.toNat_ofNat']; omega
 have e2 : (UInt8.ofNat (y / 256 ^ 31 % 256 + 128 * b)).toNat = y / 256 ^ 31 + 128 * b := by rw [UInt8.toNat_ofNat']; omega
 rw [e1, e2, leNat_leList] at hs
 refine bytes_inj ?_ ?_
 · rw [sbytes_size]; show ((leList 32 y).set 31 _).toArray.size = 32; simp [leList_length]
 · rw [num_sbytes]; show leNat ((leList 32 y).set 31 _) = _
   have : (256 : Nat) ^ 32 = 2 ^ 256 := rfl
   omega
set_option maxRecDepth 100000 in
set_option maxHeartbeats 8000000 in
theorem rMany {X Y Z : F} {p : CP} (hp : Rep X Y Z p) (s : ByteArray) (hs : s.size = 32) (w : World) : Calls Tryz.prog 74 #[.string s, .agg (qcell (qd X) (qd Y) (qd Z))] w fun e w' => ∃ X' Y' Z', e = .returned (.agg (qcell (qd X') (qd Y') (qd Z'))) ∧ Rep X' Y' Z' (p.mul (Go.Proofs.YtafhncpaoolljaaGreat.num s)) ∧ Gr w w' := by
 have hz := zeroQ
 obtain ⟨W0, hW0⟩ : ∃ W, W = (w.alloc (.cells (qcell (qd X) (qd Y) (qd Z)) 96)).alloc (.cells (qcell f0 f0 f0) 96) := ⟨_, rfl⟩
 have g0 : W0.heap[w.heap.size]? = some (.cells (qcell (qd X) (qd Y) (qd Z)) 96 (0, 0)) := by rw [hW0, heap_alloc_old _ _ (by simp)]; exact heap_alloc_new _ _
 have g1 : W0.heap[w.heap.size + 1]? = some (.cells (qcell f0 f0 f0) 96 (0, 0)) := by
   have := heap_alloc_new (w.alloc (.cells (qcell (qd X) (qd Y) (qd Z)) 96)) (.cells (qcell f0 f0 f0) 96)
   rw [World.size_alloc] at this
   rw [hW0]; exact this
 have b0 : Gr w W0 := by rw [hW0]; exact (Gr.alloc _ _).trans (Gr.alloc _ _)
 obtain ⟨bp, hbp⟩ : ∃ b, b = w.heap.size := ⟨_, rfl⟩
 obtain ⟨br, hbr⟩ : ∃ b, b = w.heap.size + 1 := ⟨_, rfl⟩
 rw [← hbp] at g0; rw [← hbr] at g1
 have GP := Box.mk g0; have GR := Box.mk g1; have B0 := Box.mk b0; have HP := Box.mk hp; have HS := Box.mk hs
 have ne_bp_br : bp ≠ br := by omega
 have nb_br : w.heap.size ≤ br := by omega
 clear g0 g1 b0 hp hs
 go_enter Tryz.func74, Tryz.ntmps74
 go_upto_region 1 with (fail)
 rw [← hW0, ← hbr, ← hbp]
 clear hW0 hz hbr hbp
 refine wp_region_seq 3 [.cha, .flo, .new (.cells (qcell f0 f0 f0) 96)] (by rfl) rfl (by decide) ?_
 simp only [List.take, List.zip, List.zipWith]
 refine gm_call [] (by kernel_rfl) rfl rfl Stb.tt (fun w1 hw1 _ => (rD w1).mono ?_)
 rintro e w2 ⟨rfl, hw2⟩
 refine ⟨_, rfl, hw2, ?_⟩
 try go_frame
 refine gm_build [(0, .agg (ncell (qd cd)))] rfl rfl _ (qbuild1 (qd cd)) ?_
 try go_frame
 refine gm_alloc rfl (.cells (qcell f0 f0 f0) 96) (fun _ => by kernel_rfl) (fun bd hbd hnbd => ?_)
 try go_frame
 refine gm_nil ?_
 intro u1 hw7 hF7
 simp only [List.drop]
 try go_frame
 have ne_bp_bd : bp ≠ bd := Nat.ne_of_lt (Nat.lt_of_lt_of_le (Gr.blt GP.out) hbd)
 have ne_br_bd : br ≠ bd := Nat.ne_of_lt (Nat.lt_of_lt_of_le (Gr.blt GR.out) hbd)
 have nb_bd : w.heap.size ≤ bd := Nat.le_trans B0.out.size hbd
 have GP' := hw7.block GP.out
 have GR' := hw7.block GR.out
 have GD' : u1.heap[bd]? = some (.cells (qcell f0 f0 f0) 96 (0, 0)) := hF7.2
 have gb : Gr w u1 := B0.out.trans hw7
 have HN0 := Box.mk GD'
 have GP'' := show ((u1.setRow bd (qcell (qd cd) f0 f0))).heap[bp]? = _ from (setRow_other _ _ _ _ (by first | exact ne_bp_bd | exact Ne.symm ne_bd_bp)).trans GP'
 have GR'' := show ((u1.setRow bd (qcell (qd cd) f0 f0))).heap[br]? = _ from (setRow_other _ _ _ _ (by first | exact ne_br_bd | exact Ne.symm ne_bd_br)).trans GR'
 have GD'' := show ((u1.setRow bd (qcell (qd cd) f0 f0))).heap[bd]? = some (.cells (qcell (qd cd) f0 f0) 96 (0, 0)) from setRow_heap _ _ _ _ _ _ GD'
 replace gb := gb.setRow (nb_bd) (qcell (qd cd) f0 f0)
 obtain ⟨V1, hWn⟩ : ∃ W, W = (u1.setRow bd (qcell (qd cd) f0 f0)) := ⟨_, rfl⟩
 replace GP := Box.mk (show V1.heap[bp]? = some (.cells (qcell (qd X) (qd Y) (qd Z)) 96 (0, 0)) from hWn ▸ GP'')
 replace GR := Box.mk (show V1.heap[br]? = some (.cells (qcell f0 f0 f0) 96 (0, 0)) from hWn ▸ GR'')
 have GD := Box.mk (show V1.heap[bd]? = some (.cells (qcell (qd cd) f0 f0) 96 (0, 0)) from hWn ▸ GD'')
 replace B0 := Box.mk (show Gr w V1 from hWn ▸ gb)
 clear gb hF7 hw7 GP' GP'' GR' GR'' GD' GD'' hbd hnbd
 go_upto_region 2 with (((with_reducible refine wpList_storeQ rfl (.tmp 5) (.tmp 9) rfl bd (qd cd) f0 f0 (qcell f0 f0 f0) rfl HN0.out ?_ ?_ ?_); rfl; rfl))
 try go_frame
 rw [← hWn]
 clear hWn HN0
 refine wp_region_seq 4 [.cha, .cha, .cha, .new (.cells (qcell f0 f0 f0) 96)] (by rfl) rfl (by decide) ?_
 simp only [List.take, List.zip, List.zipWith]
 refine gm_call [.int .i64 0] (by kernel_rfl) rfl rfl Stb.tt (fun w1 hw1 _ => (qsmall0 w1).mono ?_)
 rintro e w2 ⟨rfl, hw2⟩
 refine ⟨_, rfl, hw2, ?_⟩
 try go_frame
 refine gm_call [.int .i64 1] (by kernel_rfl) rfl rfl Stb.tt (fun w1 hw1 _ => (qsmall1 w1).mono ?_)
 rintro e w2 ⟨rfl, hw2⟩
 refine ⟨_, rfl, hw2, ?_⟩
 try go_frame
 refine gm_call [.agg (ncell (qd 0)), .agg (ncell (qd 1))] (by kernel_rfl) rfl rfl Stb.tt (fun w1 hw1 _ => (rAt 0 1 w1).mono ?_)
 rintro e w2 ⟨rfl, hw2⟩
 refine ⟨_, rfl, hw2, ?_⟩
 try go_frame
 refine gm_alloc rfl (.cells (qcell f0 f0 f0) 96) (fun _ => by kernel_rfl) (fun bo hbo hnbo => ?_)
 try go_frame
 refine gm_nil ?_
 intro u2 hw7 hF7
 simp only [List.drop]
 try go_frame
 have ne_bp_bo : bp ≠ bo := Nat.ne_of_lt (Nat.lt_of_lt_of_le (Gr.blt GP.out) hbo)
 have ne_br_bo : br ≠ bo := Nat.ne_of_lt (Nat.lt_of_lt_of_le (Gr.blt GR.out) hbo)
 have ne_bd_bo : bd ≠ bo := Nat.ne_of_lt (Nat.lt_of_lt_of_le (Gr.blt GD.out) hbo)
 have nb_bo : w.heap.size ≤ bo := Nat.le_trans B0.out.size hbo
 have GP' := hw7.block GP.out
 have GR' := hw7.block GR.out
 have GD' := hw7.block GD.out
 have GO' : u2.heap[bo]? = some (.cells (qcell f0 f0 f0) 96 (0, 0)) := hF7.2
 have gb : Gr w u2 := B0.out.trans hw7
 have HN0 := Box.mk GO'
 have GP'' := show ((u2.setRow bo (qcell (qd 0) (qd 1) (qd 1)))).heap[bp]? = _ from (setRow_other _ _ _ _ (by first | exact ne_bp_bo | exact Ne.symm ne_bo_bp)).trans GP'
 have GR'' := show ((u2.setRow bo (qcell (qd 0) (qd 1) (qd 1)))).heap[br]? = _ from (setRow_other _ _ _ _ (by first | exact ne_br_bo | exact Ne.symm ne_bo_br)).trans GR'
 have GD'' := show ((u2.setRow bo (qcell (qd 0) (qd 1) (qd 1)))).heap[bd]? = _ from (setRow_other _ _ _ _ (by first | exact ne_bd_bo | exact Ne.symm ne_bo_bd)).trans GD'
 have GO'' := show ((u2.setRow bo (qcell (qd 0) (qd 1) (qd 1)))).heap[bo]? = some (.cells (qcell (qd 0) (qd 1) (qd 1)) 96 (0, 0)) from setRow_heap _ _ _ _ _ _ GO'
 replace gb := gb.setRow (nb_bo) (qcell (qd 0) (qd 1) (qd 1))
 obtain ⟨V2, hWn⟩ : ∃ W, W = (u2.setRow bo (qcell (qd 0) (qd 1) (qd 1))) := ⟨_, rfl⟩
 replace GP := Box.mk (show V2.heap[bp]? = some (.cells (qcell (qd X) (qd Y) (qd Z)) 96 (0, 0)) from hWn ▸ GP'')
 replace GR := Box.mk (show V2.heap[br]? = some (.cells (qcell f0 f0 f0) 96 (0, 0)) from hWn ▸ GR'')
 replace GD := Box.mk (show V2.heap[bd]? = some (.cells (qcell (qd cd) f0 f0) 96 (0, 0)) from hWn ▸ GD'')
 have GO := Box.mk (show V2.heap[bo]? = some (.cells (qcell (qd 0) (qd 1) (qd 1)) 96 (0, 0)) from hWn ▸ GO'')
 replace B0 := Box.mk (show Gr w V2 from hWn ▸ gb)
 clear gb hF7 hw7 GP' GP'' GR' GR'' GD' GD'' GO' GO'' hbo hnbo
 go_upto_region 3 with (((with_reducible refine wpList_storeQ rfl (.tmp 6) (.tmp 12) rfl bo (qd 0) (qd 1) (qd 1) (qcell f0 f0 f0) rfl HN0.out ?_ ?_ ?_); rfl; rfl))
 try go_frame
 rw [← hWn]
 clear hWn HN0
 have PA := Box.mk (show QAt V2 bo CP.zero from ⟨_, _, _, GO.out, Rep.zero1⟩)
 clear GO
 go_wp2_with fail
 go_loopw [7] (fun i wr => ∃ m : Nat, m ≤ 256 ∧ i = .int .i64 ((m : Int) - 1) ∧ wr.heap[bp]? = some (.cells (qcell (qd X) (qd Y) (qd Z)) 96 (0, 0)) ∧ wr.heap[br]? = some (.cells (qcell f0 f0 f0) 96 (0, 0)) ∧ wr.heap[bd]? = some (.cells (qcell (qd cd) f0 f0) 96 (0, 0)) ∧ QAt wr bo (p.mul (Go.Proofs.YtafhncpaoolljaaGreat.num s / 2 ^ m)) ∧ Gr w wr) (fun i _ => (intOf i + 1).toNat)
 case atStart => exact ⟨256, by omega, rfl, GP.out, GR.out, GD.out, by
   rw [show Go.Proofs.YtafhncpaoolljaaGreat.num s / 2 ^ 256 = 0 from Nat.div_eq_of_lt (num_lt32 HS.out)]; exact PA.out, B0.out⟩
 case round =>
   clear GP GR GD PA B0
   obtain ⟨m, hm, rfl, gp, gr, gd, ⟨x, y, z, ga, hpr⟩, hbel⟩ := hrel
   have GP := Box.mk gp; have GR := Box.mk gr; have GD := Box.mk gd; have GA := Box.mk ga; have HA := Box.mk hpr; have B0 := Box.mk hbel
   clear gp gr gd ga hpr hbel
   by_cases hm0 : 0 < m
   · obtain ⟨i, rfl⟩ : ∃ i, m = i + 1 := ⟨m - 1, by omega⟩
     have hi : i < 256 := by omega
     have hiI : (i : Int) < 256 := by omega
     have hcast : ((i + 1 : Nat) : Int) - 1 = (i : Int) := by omega
     rw [hcast]
     clear hcast hm hm0
     go_wp2_with (first
       | ((with_reducible refine wpList_loadQ rfl (.tmp 6) rfl bo (qcell (qd x) (qd y) (qd z)) rfl GA.out ?_ ?_); rfl)
       | ((with_reducible refine wpList_loadQ rfl (.tmp 5) rfl bd (qcell (qd cd) f0 f0) rfl GD.out ?_ ?_); rfl))
     refine (rPlus HA.out HA.out _).mono ?_
     rintro e w2 ⟨xa, ya, za, rfl, ha, hg⟩
     replace GP := Box.mk (hg.block GP.out); replace GR := Box.mk (hg.block GR.out); replace GD := Box.mk (hg.block GD.out); replace GA := Box.mk (hg.block GA.out); replace B0 := Box.mk (B0.out.trans hg)
     have HD := Box.mk ha
     clear hg ha
     obtain ⟨W3, hW3⟩ : ∃ W, W = w2.setRow bo (qcell (qd xa) (qd ya) (qd za)) := ⟨_, rfl⟩
     go_upto_region 7 with ((with_reducible refine wpList_storeQ rfl (.tmp 6) (.tmp 20) rfl bo (qd xa) (qd ya) (qd za) (qcell (qd x) (qd y) (qd z)) rfl GA.out ?_ ?_ ?_); rfl; rfl)
     go_frame
     rw [← hW3]
     replace GP := Box.mk (show W3.heap[bp]? = some (.cells (qcell (qd X) (qd Y) (qd Z)) 96 (0, 0)) from by rw [hW3, setRow_other _ _ _ _ ne_bp_bo]; exact GP.out)
     replace GR := Box.mk (show W3.heap[br]? = some (.cells (qcell f0 f0 f0) 96 (0, 0)) from by rw [hW3, setRow_other _ _ _ _ ne_br_bo]; exact GR.out)
     replace GD := Box.mk (show W3.heap[bd]? = some (.cells (qcell (qd cd) f0 f0) 96 (0, 0)) from by rw [hW3, setRow_other _ _ _ _ ne_bd_bo]; exact GD.out)
     replace GA := Box.mk (show W3.heap[bo]? = some (.cells (qcell (qd xa) (qd ya) (qd za)) 96 (0, 0)) from by rw [hW3]; exact setRow_heap _ _ _ _ _ _ GA.out)
     replace B0 := Box.mk (show Gr w W3 from by rw [hW3]; exact B0.out.setRow nb_bo _)
     clear hW3
     have hsz := HS.out
     obtain ⟨q8, hq8⟩ : ∃ q, q = i / 8 := ⟨_, rfl⟩
     obtain ⟨r, hr⟩ : ∃ r, r = i % 8 := ⟨_, rfl⟩
     have hqs : q8 < s.size := by omega
     have hqI : (i : Int) / 8 = (q8 : Int) := by omega
     have hrI : (i : Int) % 8 = (r : Int) := by omega
     have hq32 : (q8 : Int) < (s.size : Int) := by omega
     have hr8 : (r : Int) < 8 := by omega
     have hbit := bit_of s i (by omega)
     have hmb := CP.mul_bit p (Go.Proofs.YtafhncpaoolljaaGreat.num s) i
     rw [← hbit] at hmb
     have hyb := s[q8].toNat_lt
     obtain ⟨y8, hy8⟩ : ∃ y, y = s[q8].toNat := ⟨_, rfl⟩
     have hyI : ((s[q8].toNat : Nat) : Int) = (y8 : Int) := by rw [hy8]
     have hy8b : y8 < 256 := by omega
     have hmb' : p.mul (Go.Proofs.YtafhncpaoolljaaGreat.num s / 2 ^ i) = if y8 / 2 ^ r % 2 = 1 then ((p.mul (Go.Proofs.YtafhncpaoolljaaGreat.num s / 2 ^ (i + 1))).add (p.mul (Go.Proofs.YtafhncpaoolljaaGreat.num s / 2 ^ (i + 1)))).add p else (p.mul (Go.Proofs.YtafhncpaoolljaaGreat.num s / 2 ^ (i + 1))).add (p.mul (Go.Proofs.YtafhncpaoolljaaGreat.num s / 2 ^ (i + 1))) := by
       subst hq8; subst hr; rw [hy8]; exact hmb
     clear hmb hbit
     obtain ⟨zb, hzb⟩ : ∃ z, z = y8 / 2 ^ r := ⟨_, rfl⟩
     have hsh : (y8 : Int) / 2 ^ r = (zb : Int) := by rw [hzb]; simp
     have hzl : zb < 256 := by rw [hzb]; exact Nat.lt_of_le_of_lt (Nat.div_le_self _ _) hy8b
     have hand := u8_and1 zb hzl
     rw [← hzb] at hmb'
     have HMB := Box.mk hmb'
     clear hq8 hr hmb' hzb hy8 hsz
     by_cases hbit1 : zb % 2 = 1
     · rw [show (((zb % 2 : Nat)) : Int) = 1 by omega] at hand
       have HB1 := Box.mk hbit1
       clear hbit1
       go_wp2_with (first
         | ((with_reducible refine wpList_loadQ rfl (.tmp 6) rfl bo (qcell (qd xa) (qd ya) (qd za)) rfl GA.out ?_ ?_); rfl)
         | ((with_reducible refine wpList_loadQ rfl (.tmp 3) rfl bp (qcell (qd X) (qd Y) (qd Z)) rfl GP.out ?_ ?_); rfl)
         | ((with_reducible refine wpList_loadQ rfl (.tmp 5) rfl bd (qcell (qd cd) f0 f0) rfl GD.out ?_ ?_); rfl))
       refine (rPlus HD.out HP.out _).mono ?_
       rintro e w4 ⟨xb, yb, zb', rfl, hb', hg⟩
       replace GP := Box.mk (hg.block GP.out); replace GR := Box.mk (hg.block GR.out); replace GD := Box.mk (hg.block GD.out); replace GA := Box.mk (hg.block GA.out); replace B0 := Box.mk (B0.out.trans hg)
       have HB' := Box.mk hb'
       clear hg hb' hand hsh
       go_wp2_with ((with_reducible refine wpList_storeQ rfl (.tmp 6) (.tmp 33) rfl bo (qd xb) (qd yb) (qd zb') (qcell (qd xa) (qd ya) (qd za)) rfl GA.out ?_ ?_ ?_); rfl; rfl)
       refine ⟨⟨i, by omega, rfl, ?_, ?_, ?_, ⟨xb, yb, zb', setRow_heap _ _ _ _ _ _ GA.out, by rw [HMB.out, if_pos HB1.out]; exact HB'.out⟩, B0.out.setRow nb_bo _⟩, by simp [intOf] <;> omega⟩
       · rw [setRow_other _ _ _ _ ne_bp_bo]; exact GP.out
       · rw [setRow_other _ _ _ _ ne_br_bo]; exact GR.out
       · rw [setRow_other _ _ _ _ ne_bd_bo]; exact GD.out
     · rw [show (((zb % 2 : Nat)) : Int) = 0 by omega] at hand
       have HB1 := Box.mk hbit1
       clear hbit1
       go_wp2_with fail
       exact ⟨⟨i, by omega, rfl, GP.out, GR.out, GD.out, ⟨xa, ya, za, GA.out, by rw [HMB.out, if_neg HB1.out]; exact HD.out⟩, B0.out⟩, by simp [intOf] <;> omega⟩
   · obtain rfl : m = 0 := by omega
     have hcast : ((0 : Nat) : Int) - 1 = -1 := rfl
     rw [hcast]
     clear hm0 hcast
     go_wp2_with (first
       | ((with_reducible refine wpList_loadQ rfl (.tmp 6) rfl bo (qcell (qd x) (qd y) (qd z)) rfl GA.out ?_ ?_); rfl)
       | ((with_reducible refine wpList_storeQ rfl (.tmp 4) (.tmp 34) rfl br (qd x) (qd y) (qd z) (qcell f0 f0 f0) rfl GR.out ?_ ?_ ?_); rfl; rfl))
     go_frame
     refine bodyPost_ret (results_cell_row (p := 4) (ty := 96) rfl _ _ br 96 (qcell (qd x) (qd y) (qd z)) (0, 0) _ rfl (setRow_heap _ _ _ _ _ _ GR.out) Tryz.underlying96 rfl (by kernel_rfl)) rfl ⟨x, y, z, rfl, ?_, B0.out.setRow nb_br _⟩
     have := HA.out
     rwa [Nat.pow_zero, Nat.div_one] at this
set_option maxRecDepth 100000 in
set_option maxHeartbeats 8000000 in
theorem rBytes {X Y Z : F} {p : CP} (hp : Rep X Y Z p) (w : World) : Calls Tryz.prog 73 #[.agg (qcell (qd X) (qd Y) (qd Z))] w fun e w' => e = .returned (.string (encP p)) ∧ Gr w w' := by
 obtain ⟨W0, hW0⟩ : ∃ W, W = w.alloc (.cells (qcell (qd X) (qd Y) (qd Z)) 96) := ⟨_, rfl⟩
 have g0 : W0.heap[w.heap.size]? = some (.cells (qcell (qd X) (qd Y) (qd Z)) 96 (0, 0)) := by rw [hW0]; exact heap_alloc_new _ _
 have GP := Box.mk g0; have B0 := Box.mk (show Gr w W0 from by rw [hW0]; exact Gr.alloc _ _)
 have HX := Box.mk (show X * fi Z = p.x from by rw [hp.x]; have := fi_mul hp.z; grind); have HY := Box.mk (show Y * fi Z = p.y from by rw [hp.y]; have := fi_mul hp.z; grind)
 clear g0 hp
 obtain ⟨bp, hbp⟩ : ∃ b, b = w.heap.size := ⟨_, rfl⟩
 rw [← hbp] at GP
 go_enter Tryz.func73, Tryz.ntmps73
 go_upto_region 1 with (fail)
 rw [← hW0, ← hbp]
 clear hW0 hbp
 have hz := zeroN
 refine wp_region_seq 4 [.flo, .flo, .cha, .new (.cells (ncell (f0)) 94)] (by rfl) rfl (by decide) ?_
 simp only [List.take, List.zip, List.zipWith]
 refine gm_fieldQ 2 32 (.tmp 1) rfl bp rfl (qfield2 bp) ?_
 try go_frame
 refine gm_loadG (.tmp 6) rfl bp 32 (qd Z) (qcell (qd X) (qd Y) (qd Z)) GP.out (subq_z _ _ _) rfl ?_
 try go_frame
 refine gm_call [.agg (ncell (qd Z))] (by kernel_rfl) rfl rfl Stb.tt (fun w1 hw1 _ => (qinv Z w1).mono ?_)
 rintro e w2 ⟨rfl, hw2⟩
 refine ⟨_, rfl, hw2, ?_⟩
 try go_frame
 refine gm_alloc rfl (.cells (ncell (f0)) 94) (fun _ => by kernel_rfl) (fun bi hbi hnbi => ?_)
 try go_frame
 refine gm_nil ?_
 intro u1 hw7 hF7
 simp only [List.drop]
 try go_frame
 have ne_bp_bi : bp ≠ bi := Nat.ne_of_lt (Nat.lt_of_lt_of_le (Gr.blt GP.out) hbi)
 have nb_bi : w.heap.size ≤ bi := Nat.le_trans B0.out.size hbi
 have GP' := hw7.block GP.out
 have GI' : u1.heap[bi]? = some (.cells (ncell (f0)) 94 (0, 0)) := hF7.2
 have gb : Gr w u1 := B0.out.trans hw7
 have HN0 := Box.mk GI'
 have GP'' := show ((u1.setRow bi (ncell (qd (fi Z))))).heap[bp]? = _ from (setRow_other _ _ _ _ (by first | exact ne_bp_bi | exact Ne.symm ne_bi_bp)).trans GP'
 have GI'' := show ((u1.setRow bi (ncell (qd (fi Z))))).heap[bi]? = some (.cells (ncell (qd (fi Z))) 94 (0, 0)) from setRow_heap _ _ _ _ _ _ GI'
 replace gb := gb.setRow (nb_bi) (ncell (qd (fi Z)))
 obtain ⟨V1, hWn⟩ : ∃ W, W = (u1.setRow bi (ncell (qd (fi Z)))) := ⟨_, rfl⟩
 replace GP := Box.mk (show V1.heap[bp]? = some (.cells (qcell (qd X) (qd Y) (qd Z)) 96 (0, 0)) from hWn ▸ GP'')
 have GI := Box.mk (show V1.heap[bi]? = some (.cells (ncell (qd (fi Z))) 94 (0, 0)) from hWn ▸ GI'')
 replace B0 := Box.mk (show Gr w V1 from hWn ▸ gb)
 clear gb hF7 hw7 GP' GP'' GI' GI'' hbi hnbi
 go_upto_region 2 with (((with_reducible refine wpList_storeN rfl (.tmp 3) (.tmp 8) rfl bi (qd (fi Z)) (f0) HN0.out ?_ ?_ ?_); rfl; rfl))
 try go_frame
 rw [← hWn]
 clear hWn HN0
 refine wp_region_seq 5 [.flo, .flo, .flo, .cha, .new (.cells (ncell (f0)) 94)] (by rfl) rfl (by decide) ?_
 simp only [List.take, List.zip, List.zipWith]
 refine gm_fieldQ 0 0 (.tmp 1) rfl bp rfl (qfield0 bp) ?_
 try go_frame
 refine gm_loadG (.tmp 9) rfl bp 0 (qd X) (qcell (qd X) (qd Y) (qd Z)) GP.out (subq_x _ _ _) rfl ?_
 try go_frame
 refine gm_loadN (.tmp 3) rfl bi (qd (fi Z)) GI.out rfl ?_
 try go_frame
 refine gm_call [.agg (ncell (qd X)), .agg (ncell (qd (fi Z)))] (by kernel_rfl) rfl rfl Stb.tt (fun w1 hw1 _ => (qtimes X (fi Z) w1).mono ?_)
 rintro e w2 ⟨rfl, hw2⟩
 refine ⟨_, rfl, hw2, ?_⟩
 try go_frame
 rw [HX.out]
 refine gm_alloc rfl (.cells (ncell (f0)) 94) (fun _ => by kernel_rfl) (fun bx hbx hnbx => ?_)
 try go_frame
 refine gm_nil ?_
 intro u2 hw7 hF7
 simp only [List.drop]
 try go_frame
 have ne_bp_bx : bp ≠ bx := Nat.ne_of_lt (Nat.lt_of_lt_of_le (Gr.blt GP.out) hbx)
 have ne_bi_bx : bi ≠ bx := Nat.ne_of_lt (Nat.lt_of_lt_of_le (Gr.blt GI.out) hbx)
 have nb_bx : w.heap.size ≤ bx := Nat.le_trans B0.out.size hbx
 have GP' := hw7.block GP.out
 have GI' := hw7.block GI.out
 have GX' : u2.heap[bx]? = some (.cells (ncell (f0)) 94 (0, 0)) := hF7.2
 have gb : Gr w u2 := B0.out.trans hw7
 have HN0 := Box.mk GX'
 have GP'' := show ((u2.setRow bx (ncell (qd p.x)))).heap[bp]? = _ from (setRow_other _ _ _ _ (by first | exact ne_bp_bx | exact Ne.symm ne_bx_bp)).trans GP'
 have GI'' := show ((u2.setRow bx (ncell (qd p.x)))).heap[bi]? = _ from (setRow_other _ _ _ _ (by first | exact ne_bi_bx | exact Ne.symm ne_bx_bi)).trans GI'
 have GX'' := show ((u2.setRow bx (ncell (qd p.x)))).heap[bx]? = some (.cells (ncell (qd p.x)) 94 (0, 0)) from setRow_heap _ _ _ _ _ _ GX'
 replace gb := gb.setRow (nb_bx) (ncell (qd p.x))
 obtain ⟨V2, hWn⟩ : ∃ W, W = (u2.setRow bx (ncell (qd p.x))) := ⟨_, rfl⟩
 replace GP := Box.mk (show V2.heap[bp]? = some (.cells (qcell (qd X) (qd Y) (qd Z)) 96 (0, 0)) from hWn ▸ GP'')
 replace GI := Box.mk (show V2.heap[bi]? = some (.cells (ncell (qd (fi Z))) 94 (0, 0)) from hWn ▸ GI'')
 have GX := Box.mk (show V2.heap[bx]? = some (.cells (ncell (qd p.x)) 94 (0, 0)) from hWn ▸ GX'')
 replace B0 := Box.mk (show Gr w V2 from hWn ▸ gb)
 clear gb hF7 hw7 GP' GP'' GI' GI'' GX' GX'' hbx hnbx
 go_upto_region 3 with (((with_reducible refine wpList_storeN rfl (.tmp 4) (.tmp 12) rfl bx (qd p.x) (f0) HN0.out ?_ ?_ ?_); rfl; rfl))
 try go_frame
 rw [← hWn]
 clear hWn HN0
 refine wp_region_seq 5 [.flo, .flo, .flo, .cha, .cha] (by rfl) rfl (by decide) ?_
 simp only [List.take, List.zip, List.zipWith]
 refine gm_fieldQ 1 16 (.tmp 1) rfl bp rfl (qfield1 bp) ?_
 try go_frame
 refine gm_loadG (.tmp 13) rfl bp 16 (qd Y) (qcell (qd X) (qd Y) (qd Z)) GP.out (subq_y _ _ _) rfl ?_
 try go_frame
 refine gm_loadN (.tmp 3) rfl bi (qd (fi Z)) GI.out rfl ?_
 try go_frame
 refine gm_call [.agg (ncell (qd Y)), .agg (ncell (qd (fi Z)))] (by kernel_rfl) rfl rfl Stb.tt (fun w1 hw1 _ => (qtimes Y (fi Z) w1).mono ?_)
 rintro e w2 ⟨rfl, hw2⟩
 refine ⟨_, rfl, hw2, ?_⟩
 try go_frame
 rw [HY.out]
 refine gm_call [.agg (ncell (qd p.y))] (by kernel_rfl) rfl rfl Stb.tt (fun w1 hw1 _ => (qbytes p.y w1).mono ?_)
 rintro e w2 ⟨rfl, hw2⟩
 refine ⟨_, rfl, hw2, ?_⟩
 try go_frame
 refine gm_nil ?_
 intro u3 hw7 hF7
 simp only [List.drop]
 try go_frame
 have GP' := hw7.block GP.out
 have GI' := hw7.block GI.out
 have GX' := hw7.block GX.out
 have gb : Gr w u3 := B0.out.trans hw7
 replace GP := Box.mk (show u3.heap[bp]? = some (.cells (qcell (qd X) (qd Y) (qd Z)) 96 (0, 0)) from GP')
 replace GI := Box.mk (show u3.heap[bi]? = some (.cells (ncell (qd (fi Z))) 94 (0, 0)) from GI')
 replace GX := Box.mk (show u3.heap[bx]? = some (.cells (ncell (qd p.x)) 94 (0, 0)) from GX')
 replace B0 := Box.mk (show Gr w u3 from gb)
 clear gb hF7 hw7 GP' GI' GX'
 obtain ⟨cap, C, fr, hcv, hown⟩ := run_tobytes (P := Tryz.prog) 9 29 5 (sbytes p.y.val) Tryz.underlying9 Tryz.underlying29 Tryz.underlying5 (by rw [sbytes_size]; omega) w.heap.size u3 (B0.out.size)
 obtain ⟨W2, hW2⟩ : ∃ W, W = (u3.alloc (.cells C 5 fr)).drew := ⟨_, rfl⟩
 rw [← hW2] at hcv
 have hg2 : Gr u3 W2 := by rw [hW2]; exact bdrewN (Gr.alloc u3 _) 1
 obtain ⟨bb, hbb⟩ : ∃ b, b = u3.heap.size := ⟨_, rfl⟩
 rw [← hbb] at hcv hown
 have OW := Box.mk (show Own W2 w.heap.size 5 (.slice (some ⟨bb, 0, none⟩) 32 cap) 32 ((leList 32 p.y.val).map byv) from by rw [hW2]; exact hown.drew)
 rw [sbytes_size] at hcv
 go_upto_region 4 with (fail)
 try go_frame
 rw [← hW2, ← hbb]
 have gx := hg2.block GX.out; replace B0 := Box.mk (B0.out.trans hg2)
 have hbge : w.heap.size ≤ bb := (OW.out.lt _ rfl).1
 clear hcv hown hg2 hW2 hbb hz
 have hcx : W2.cell? ⟨bx, 0, none⟩ = some (.int .i64 ((p.x.val % 65536 : Nat) : Int)) := by
   rw [cell_of_row _ _ _ _ _ _ gx, ncell_get _ 0 (by omega)]; unfold qd dg; simp
 have hyl := val255 p.y
 have hi31 : ((leList 32 p.y.val).map byv)[31]? = some (byv (UInt8.ofNat (p.y.val / 256 ^ 31 % 256))) := by rw [List.getElem?_map, leList_get 32 _ 31 (by omega)]; rfl
 obtain ⟨hc, hf⟩ := Own.at OW.out 31 _ hi31
 have hq : p.y.val / 256 ^ 31 < 128 := by omega
 have hbv : byv (UInt8.ofNat (p.y.val / 256 ^ 31 % 256)) = .int .u8 ((p.y.val / 256 ^ 31 : Nat) : Int) := by
   unfold byv; congr 2; rw [UInt8.toNat_ofNat']; omega
 rw [hbv] at hc
 have hv : byv (UInt8.ofNat (p.y.val / 256 ^ 31 % 256 + 128 * (p.x.val % 2))) = .int .u8 (((p.y.val / 256 ^ 31 : Nat) : Int) + (p.x.val : Int) % 2 * 128) := by
   unfold byv; congr 1; rw [UInt8.toNat_ofNat']; omega
 have hset := Own.set OW.out 31 (byv (UInt8.ofNat (p.y.val / 256 ^ 31 % 256 + 128 * (p.x.val % 2)))) (by omega)
 rw [← List.map_set, hv] at hset
 have EN := Box.mk (set_top p.y.val (p.x.val % 2) hyl (by omega))
 obtain ⟨nb, hnb⟩ : ∃ b, b = UInt8.ofNat (p.y.val / 256 ^ 31 % 256 + 128 * (p.x.val % 2)) := ⟨_, rfl⟩
 rw [← hnb] at hset EN
 clear hi31 hbv hv hnb
 generalize p.y.val / 256 ^ 31 = q at hc hq hset
 obtain ⟨W3, hW3⟩ : ∃ W, W = (W2.setCell ⟨bb, 31, none⟩ (.int .u8 ((q : Int) + (p.x.val : Int) % 2 * 128))).drew := ⟨_, rfl⟩
 have OW3 := hset.drew
 rw [← hW3] at OW3
 have hst := run_str_Own (P := Tryz.prog) (src := 29) (dst := 9) OW3 (by intro h; cases h) Tryz.underlying29 Tryz.underlying5 Tryz.underlying9
 rw [EN.out, show sbytes (p.y.val + 2 ^ 255 * (p.x.val % 2)) = encP p from rfl] at hst
 replace B0 := Box.mk (show Gr w W3 from by rw [hW3]; exact (B0.out.setCell hbge _).drew)
 clear hset OW3 OW gx hyl EN
 go_region
 rw [← hW3]
 clear hW3 hc hf hcx hq
 go_wp2_with fail
 go_ret
 exact ⟨rfl, B0.out⟩
open Go Go.RowKit
theorem fv5 : fv 5 ≠ 0 := fun h => by
 have e : 5 % fp = 0 := congrArg Fin.val h
 rw [fp_eq] at e
 revert e; decide
theorem base_doc : fv 4 * fi (fv 5) = fv bY := by
 refine f_cancel fv5 ?_
 have h1 := fi_mul fv5
 have h2 : fv 5 * fv bY = fv 4 := by rw [← fv_mul]; refine fv_eq ?_; rw [bY_eq, fp_eq]
 rw [h2]; grind
theorem encP_base2 : encP CP.base = sbytes (fv 4 * fi (fv 5)).val := by
 rw [base_doc]
 have e2 : (fv bX).val % 2 = 0 := by rw [fv_val, bX_eq, fp_eq]
 unfold encP; show sbytes ((fv bY).val + 2 ^ 255 * ((fv bX).val % 2)) = _; rw [e2]; rfl
set_option maxRecDepth 100000 in
set_option maxHeartbeats 8000000 in
theorem dis_any (s : ByteArray) (w : World) : Calls Tryz.prog 37 #[.string s] w fun e w' => ∃ ok, e = .returned (.bool ok) ∧ ((ok = true ∧ ∃ p, encP p = s) ∨ (ok = false ∧ NoP s)) ∧ Gr w w' := by
 have B0 := Box.mk (Gr.refl w)
 go_enter Tryz.func37, Tryz.ntmps37
 go_upto_region 1 with (fail)
 try go_frame
 refine wp_region_seq 6 [.flo, .cha, .flo, .flo, .flo, .new (.cells (qcell f0 f0 f0) 96)] (by rfl) rfl (by decide) ?_
 simp only [List.take, List.zip, List.zipWith]
 refine gm_move (.tmp 0) (.inl rfl) (.string s) rfl ?_
 try go_frame
 refine gm_call [.string s] (by kernel_rfl) rfl rfl Stb.tt (fun w1 hw1 _ => (rparse_at s w1).mono ?_)
 rintro e w2 ⟨okA, xA, yA, zA, rfl, hp, hw2⟩
 refine ⟨_, rfl, hw2, ?_⟩
 try go_frame
 have OKA := Box.mk hp
 clear hp
 refine gm_move (.tmp 7) (.inl rfl) (.tuple #[.agg (qcell xA yA zA), .bool okA]) rfl ?_
 try go_frame
 refine gm_extract (vs := #[.agg (qcell xA yA zA), .bool okA]) (.tmp 5) 0 rfl rfl (.agg (qcell xA yA zA)) rfl ?_
 try go_frame
 refine gm_extract (vs := #[.agg (qcell xA yA zA), .bool okA]) (.tmp 5) 1 rfl rfl (.bool okA) rfl ?_
 try go_frame
 refine gm_alloc rfl (.cells (qcell f0 f0 f0) 96) (fun _ => by kernel_rfl) (fun bA hbA hnbA => ?_)
 try go_frame
 refine gm_nil ?_
 intro u1 hw7 hF7
 simp only [List.drop]
 try go_frame
 have nb_bA : w.heap.size ≤ bA := Nat.le_trans B0.out.size hbA
 have GA' : u1.heap[bA]? = some (.cells (qcell f0 f0 f0) 96 (0, 0)) := hF7.2
 have gb : Gr w u1 := B0.out.trans hw7
 have HN0 := Box.mk GA'
 have GA'' := show ((u1.setRow bA (qcell xA yA zA))).heap[bA]? = some (.cells (qcell xA yA zA) 96 (0, 0)) from setRow_heap _ _ _ _ _ _ GA'
 replace gb := gb.setRow (nb_bA) (qcell xA yA zA)
 obtain ⟨V1, hWn⟩ : ∃ W, W = (u1.setRow bA (qcell xA yA zA)) := ⟨_, rfl⟩
 have GA := Box.mk (show V1.heap[bA]? = some (.cells (qcell xA yA zA) 96 (0, 0)) from hWn ▸ GA'')
 replace B0 := Box.mk (show Gr w V1 from hWn ▸ gb)
 clear gb hF7 hw7 GA' GA'' hbA hnbA
 go_upto_region 2 with (((with_reducible refine wpList_storeQ rfl (.tmp 3) (.tmp 8) rfl bA xA yA zA (qcell f0 f0 f0) rfl HN0.out ?_ ?_ ?_); rfl; rfl))
 try go_frame
 rw [← hWn]
 clear hWn HN0
 go_wp2_with fail
 go_ret
 exact ⟨okA, rfl, OKA.out.imp (fun ⟨h, p, _, _, hp, _⟩ => ⟨h, p, hp⟩) id, B0.out⟩
set_option maxRecDepth 100000 in
set_option maxHeartbeats 8000000 in
theorem dadd_any (s r : ByteArray) (w : World) : Calls Tryz.prog 42 #[.string s, .string r] w fun e w' => ((∃ p q, encP p = s ∧ encP q = r ∧ e = .returned (.tuple #[.string (encP (p.add q)), .int .i64 0])) ∨ ((NoP s ∨ NoP r) ∧ e = .returned (.tuple #[.string ⟨#[]⟩, .int .i64 60]))) ∧ Gr w w' := by
 have B0 := Box.mk (Gr.refl w)
 go_enter Tryz.func42, Tryz.ntmps42
 go_upto_region 1 with (fail)
 try go_frame
 refine wp_region_seq 6 [.flo, .cha, .flo, .flo, .flo, .new (.cells (qcell f0 f0 f0) 96)] (by rfl) rfl (by decide) ?_
 simp only [List.take, List.zip, List.zipWith]
 refine gm_move (.tmp 0) (.inl rfl) (.string s) rfl ?_
 try go_frame
 refine gm_call [.string s] (by kernel_rfl) rfl rfl Stb.tt (fun w1 hw1 _ => (rparse_at s w1).mono ?_)
 rintro e w2 ⟨okA, xA, yA, zA, rfl, hp, hw2⟩
 refine ⟨_, rfl, hw2, ?_⟩
 try go_frame
 have OKA := Box.mk hp
 clear hp
 refine gm_move (.tmp 12) (.inl rfl) (.tuple #[.agg (qcell xA yA zA), .bool okA]) rfl ?_
 try go_frame
 refine gm_extract (vs := #[.agg (qcell xA yA zA), .bool okA]) (.tmp 10) 0 rfl rfl (.agg (qcell xA yA zA)) rfl ?_
 try go_frame
 refine gm_extract (vs := #[.agg (qcell xA yA zA), .bool okA]) (.tmp 10) 1 rfl rfl (.bool okA) rfl ?_
 try go_frame
 refine gm_alloc rfl (.cells (qcell f0 f0 f0) 96) (fun _ => by kernel_rfl) (fun bA hbA hnbA => ?_)
 try go_frame
 refine gm_nil ?_
 intro u1 hw7 hF7
 simp only [List.drop]
 try go_frame
 have nb_bA : w.heap.size ≤ bA := Nat.le_trans B0.out.size hbA
 have GA' : u1.heap[bA]? = some (.cells (qcell f0 f0 f0) 96 (0, 0)) := hF7.2
 have gb : Gr w u1 := B0.out.trans hw7
 have HN0 := Box.mk GA'
 have GA'' := show ((u1.setRow bA (qcell xA yA zA))).heap[bA]? = some (.cells (qcell xA yA zA) 96 (0, 0)) from setRow_heap _ _ _ _ _ _ GA'
 replace gb := gb.setRow (nb_bA) (qcell xA yA zA)
 obtain ⟨V1, hWn⟩ : ∃ W, W = (u1.setRow bA (qcell xA yA zA)) := ⟨_, rfl⟩
 have GA := Box.mk (show V1.heap[bA]? = some (.cells (qcell xA yA zA) 96 (0, 0)) from hWn ▸ GA'')
 replace B0 := Box.mk (show Gr w V1 from hWn ▸ gb)
 clear gb hF7 hw7 GA' GA'' hbA hnbA
 go_upto_region 2 with (((with_reducible refine wpList_storeQ rfl (.tmp 6) (.tmp 13) rfl bA xA yA zA (qcell f0 f0 f0) rfl HN0.out ?_ ?_ ?_); rfl; rfl))
 try go_frame
 rw [← hWn]
 clear hWn HN0
 refine wp_region_seq 6 [.flo, .cha, .flo, .flo, .flo, .new (.cells (qcell f0 f0 f0) 96)] (by rfl) rfl (by decide) ?_
 simp only [List.take, List.zip, List.zipWith]
 refine gm_move (.tmp 1) (.inl rfl) (.string r) rfl ?_
 try go_frame
 refine gm_call [.string r] (by kernel_rfl) rfl rfl Stb.tt (fun w1 hw1 _ => (rparse_at r w1).mono ?_)
 rintro e w2 ⟨okB, xB, yB, zB, rfl, hp, hw2⟩
 refine ⟨_, rfl, hw2, ?_⟩
 try go_frame
 have OKB := Box.mk hp
 clear hp
 refine gm_move (.tmp 17) (.inl rfl) (.tuple #[.agg (qcell xB yB zB), .bool okB]) rfl ?_
 try go_frame
 refine gm_extract (vs := #[.agg (qcell xB yB zB), .bool okB]) (.tmp 15) 0 rfl rfl (.agg (qcell xB yB zB)) rfl ?_
 try go_frame
 refine gm_extract (vs := #[.agg (qcell xB yB zB), .bool okB]) (.tmp 15) 1 rfl rfl (.bool okB) rfl ?_
 try go_frame
 refine gm_alloc rfl (.cells (qcell f0 f0 f0) 96) (fun _ => by kernel_rfl) (fun bB hbB hnbB => ?_)
 try go_frame
 refine gm_nil ?_
 intro u2 hw7 hF7
 simp only [List.drop]
 try go_frame
 have ne_bA_bB : bA ≠ bB := Nat.ne_of_lt (Nat.lt_of_lt_of_le (Gr.blt GA.out) hbB)
 have nb_bB : w.heap.size ≤ bB := Nat.le_trans B0.out.size hbB
 have GA' := hw7.block GA.out
 have GB' : u2.heap[bB]? = some (.cells (qcell f0 f0 f0) 96 (0, 0)) := hF7.2
 have gb : Gr w u2 := B0.out.trans hw7
 have HN0 := Box.mk GB'
 have GA'' := show ((u2.setRow bB (qcell xB yB zB))).heap[bA]? = _ from (setRow_other _ _ _ _ (by first | exact ne_bA_bB | exact Ne.symm ne_bB_bA)).trans GA'
 have GB'' := show ((u2.setRow bB (qcell xB yB zB))).heap[bB]? = some (.cells (qcell xB yB zB) 96 (0, 0)) from setRow_heap _ _ _ _ _ _ GB'
 replace gb := gb.setRow (nb_bB) (qcell xB yB zB)
 obtain ⟨V2, hWn⟩ : ∃ W, W = (u2.setRow bB (qcell xB yB zB)) := ⟨_, rfl⟩
 replace GA := Box.mk (show V2.heap[bA]? = some (.cells (qcell xA yA zA) 96 (0, 0)) from hWn ▸ GA'')
 have GB := Box.mk (show V2.heap[bB]? = some (.cells (qcell xB yB zB) 96 (0, 0)) from hWn ▸ GB'')
 replace B0 := Box.mk (show Gr w V2 from hWn ▸ gb)
 clear gb hF7 hw7 GA' GA'' GB' GB'' hbB hnbB
 go_upto_region 3 with (((with_reducible refine wpList_storeQ rfl (.tmp 8) (.tmp 18) rfl bB xB yB zB (qcell f0 f0 f0) rfl HN0.out ?_ ?_ ?_); rfl; rfl))
 try go_frame
 rw [← hWn]
 clear hWn HN0
 rcases OKA.out with ⟨rfl, p, XA, YA, hp, hr, rfl, rfl, rfl⟩ | ⟨rfl, hn⟩
 ·
   have RA := Box.mk hr; have HPA := Box.mk hp
   clear hp hr OKA
   rcases OKB.out with ⟨rfl, q, XB, YB, hp, hr, rfl, rfl, rfl⟩ | ⟨rfl, hn⟩
   ·
     have RB := Box.mk hr; have HPB := Box.mk hp
     clear hp hr OKB
     go_upto_region 5 with (fail)
     try go_frame
     refine wp_region_mix 6 [.flo, .flo, .cha, .flo, .cha, .cha] (by kernel_rfl) (by kernel_rfl) rfl ?_
     simp only [List.take, List.zip, List.zipWith]
     refine gm_loadQ (.tmp 6) rfl bA (qd XA) (qd YA) (qd 1) GA.out rfl ?_
     try go_frame
     refine gm_loadQ (.tmp 8) rfl bB (qd XB) (qd YB) (qd 1) GB.out rfl ?_
     try go_frame
     refine gm_call [] (by kernel_rfl) rfl rfl Stb.tt (fun w1 hw1 _ => (rD w1).mono ?_)
     rintro e w2 ⟨rfl, hw2⟩
     refine ⟨_, rfl, hw2, ?_⟩
     try go_frame
     refine gm_build [(0, .agg (ncell (qd cd)))] rfl rfl _ (qbuild1 (qd cd)) ?_
     try go_frame
     refine gm_call [.agg (qcell (qd XA) (qd YA) (qd 1)), .agg (qcell (qd XB) (qd YB) (qd 1)), .agg (qcell (qd cd) f0 f0)] (by kernel_rfl) rfl rfl Stb.tt (fun w1 hw1 _ => (rPlus RA.out RB.out w1).mono ?_)
     rintro e w2 ⟨X, Y, Z, rfl, hr, hw2⟩
     refine ⟨_, rfl, hw2, ?_⟩
     try go_frame
     have RS := Box.mk hr
     clear hr
     refine gm_call [.agg (qcell (qd X) (qd Y) (qd Z))] (by kernel_rfl) rfl rfl Stb.tt (fun w1 hw1 _ => (rBytes RS.out w1).mono ?_)
     rintro e w2 ⟨rfl, hw2⟩
     refine ⟨_, rfl, hw2, ?_⟩
     try go_frame
     refine gm_nil ?_
     intro u3 hw7 hF7
     simp only [List.drop]
     try go_frame
     have GA' := hw7.block GA.out
     have GB' := hw7.block GB.out
     have gb : Gr w u3 := B0.out.trans (Gr.trans (show Gr V2 V2.drew from (Below.refl _ _).drew) hw7)
     replace GA := Box.mk (show u3.heap[bA]? = some (.cells (qcell (qd XA) (qd YA) (qd 1)) 96 (0, 0)) from GA')
     replace GB := Box.mk (show u3.heap[bB]? = some (.cells (qcell (qd XB) (qd YB) (qd 1)) 96 (0, 0)) from GB')
     replace B0 := Box.mk (show Gr w u3 from gb)
     clear gb hF7 hw7 GA' GB'
     go_wp2_with fail
     go_ret2
     exact ⟨.inl ⟨p, q, HPA.out, HPB.out, rfl⟩, B0.out⟩
   ·
     clear OKB
     have HN := Box.mk hn
     clear hn
     go_wp2_with fail
     go_ret2
     exact ⟨.inr ⟨.inr HN.out, rfl⟩, B0.out⟩
 ·
   clear OKA
   have HN := Box.mk hn
   clear hn
   go_wp2_with fail
   go_ret2
   exact ⟨.inr ⟨.inl HN.out, rfl⟩, B0.out⟩
set_option maxRecDepth 100000 in
set_option maxHeartbeats 8000000 in
theorem dmul_any (k s : ByteArray) (w : World) : Calls Tryz.prog 39 #[.string k, .string s] w fun e w' => ((∃ p, encP p = s ∧ k.size = 32 ∧ e = .returned (.tuple #[.string (encP (p.mul (Go.Proofs.YtafhncpaoolljaaGreat.num k))), .int .i64 0])) ∨ ((NoP s ∨ k.size ≠ 32) ∧ e = .returned (.tuple #[.string ⟨#[]⟩, .int .i64 60]))) ∧ Gr w w' := by
 have B0 := Box.mk (Gr.refl w)
 go_enter Tryz.func39, Tryz.ntmps39
 go_upto_region 1 with (fail)
 try go_frame
 refine wp_region_seq 6 [.flo, .cha, .flo, .flo, .flo, .new (.cells (qcell f0 f0 f0) 96)] (by rfl) rfl (by decide) ?_
 simp only [List.take, List.zip, List.zipWith]
 refine gm_move (.tmp 1) (.inl rfl) (.string s) rfl ?_
 try go_frame
 refine gm_call [.string s] (by kernel_rfl) rfl rfl Stb.tt (fun w1 hw1 _ => (rparse_at s w1).mono ?_)
 rintro e w2 ⟨okA, xA, yA, zA, rfl, hp, hw2⟩
 refine ⟨_, rfl, hw2, ?_⟩
 try go_frame
 have OKA := Box.mk hp
 clear hp
 refine gm_move (.tmp 10) (.inl rfl) (.tuple #[.agg (qcell xA yA zA), .bool okA]) rfl ?_
 try go_frame
 refine gm_extract (vs := #[.agg (qcell xA yA zA), .bool okA]) (.tmp 8) 0 rfl rfl (.agg (qcell xA yA zA)) rfl ?_
 try go_frame
 refine gm_extract (vs := #[.agg (qcell xA yA zA), .bool okA]) (.tmp 8) 1 rfl rfl (.bool okA) rfl ?_
 try go_frame
 refine gm_alloc rfl (.cells (qcell f0 f0 f0) 96) (fun _ => by kernel_rfl) (fun bA hbA hnbA => ?_)
 try go_frame
 refine gm_nil ?_
 intro u1 hw7 hF7
 simp only [List.drop]
 try go_frame
 have nb_bA : w.heap.size ≤ bA := Nat.le_trans B0.out.size hbA
 have GA' : u1.heap[bA]? = some (.cells (qcell f0 f0 f0) 96 (0, 0)) := hF7.2
 have gb : Gr w u1 := B0.out.trans hw7
 have HN0 := Box.mk GA'
 have GA'' := show ((u1.setRow bA (qcell xA yA zA))).heap[bA]? = some (.cells (qcell xA yA zA) 96 (0, 0)) from setRow_heap _ _ _ _ _ _ GA'
 replace gb := gb.setRow (nb_bA) (qcell xA yA zA)
 obtain ⟨V1, hWn⟩ : ∃ W, W = (u1.setRow bA (qcell xA yA zA)) := ⟨_, rfl⟩
 have GA := Box.mk (show V1.heap[bA]? = some (.cells (qcell xA yA zA) 96 (0, 0)) from hWn ▸ GA'')
 replace B0 := Box.mk (show Gr w V1 from hWn ▸ gb)
 clear gb hF7 hw7 GA' GA'' hbA hnbA
 go_upto_region 2 with (((with_reducible refine wpList_storeQ rfl (.tmp 6) (.tmp 11) rfl bA xA yA zA (qcell f0 f0 f0) rfl HN0.out ?_ ?_ ?_); rfl; rfl))
 try go_frame
 rw [← hWn]
 clear hWn HN0
 rcases OKA.out with ⟨rfl, p, XA, YA, hp, hr, rfl, rfl, rfl⟩ | ⟨rfl, hn⟩
 ·
   have RA := Box.mk hr; have HPA := Box.mk hp
   clear hp hr OKA
   by_cases hk : k.size = 32
   ·
     have hkI : (k.size : Int) = 32 := by omega
     have Hk := Box.mk hk
     clear hk
     go_upto_region 4 with (fail)
     try go_frame
     refine wp_region_seq 4 [.flo, .flo, .cha, .cha] (by rfl) rfl (by decide) ?_
     simp only [List.take, List.zip, List.zipWith]
     refine gm_move (.tmp 0) (.inl rfl) (.string k) rfl ?_
     try go_frame
     refine gm_loadQ (.tmp 6) rfl bA (qd XA) (qd YA) (qd 1) GA.out rfl ?_
     try go_frame
     refine gm_call [.string k, .agg (qcell (qd XA) (qd YA) (qd 1))] (by kernel_rfl) rfl rfl Stb.tt (fun w1 hw1 _ => (rMany RA.out k Hk.out w1).mono ?_)
     rintro e w2 ⟨X, Y, Z, rfl, hr, hw2⟩
     refine ⟨_, rfl, hw2, ?_⟩
     try go_frame
     have RM := Box.mk hr
     clear hr
     refine gm_call [.agg (qcell (qd X) (qd Y) (qd Z))] (by kernel_rfl) rfl rfl Stb.tt (fun w1 hw1 _ => (rBytes RM.out w1).mono ?_)
     rintro e w2 ⟨rfl, hw2⟩
     refine ⟨_, rfl, hw2, ?_⟩
     try go_frame
     refine gm_nil ?_
     intro u2 hw7 hF7
     simp only [List.drop]
     try go_frame
     have GA' := hw7.block GA.out
     have gb : Gr w u2 := B0.out.trans hw7
     replace GA := Box.mk (show u2.heap[bA]? = some (.cells (qcell (qd XA) (qd YA) (qd 1)) 96 (0, 0)) from GA')
     replace B0 := Box.mk (show Gr w u2 from gb)
     clear gb hF7 hw7 GA'
     clear hkI
     go_wp2_with fail
     go_ret2
     exact ⟨.inl ⟨p, HPA.out, Hk.out, rfl⟩, B0.out⟩
   ·
     have hk' : ((k.size : Int) == 32) = false := by rw [beq_eq_false_iff_ne]; omega
     have HN := Box.mk hk
     clear hk
     go_wp2_with fail
     go_ret2
     exact ⟨.inr ⟨.inr HN.out, rfl⟩, B0.out⟩
 ·
   clear OKA
   have HN := Box.mk hn
   clear hn
   go_wp2_with fail
   go_ret2
   exact ⟨.inr ⟨.inl HN.out, rfl⟩, B0.out⟩
section
variable {a b k m : ByteArray} {p q : CP}
theorem ddis (h : Pt a p) (w : World) : Calls Tryz.prog 37 #[.string a] w fun e w' => e = .returned (.bool true) ∧ Gr w w' :=
 (dis_any a w).mono fun _ _ ⟨ok, he, ho, hg⟩ => by
   rcases ho with ⟨rfl, _⟩ | ⟨_, hn⟩
   · exact ⟨he, hg⟩
   · exact (h.num hn).elim
theorem ddis_no (h : NoP a) (w : World) : Calls Tryz.prog 37 #[.string a] w fun e w' => e = .returned (.bool false) ∧ Gr w w' :=
 (dis_any a w).mono fun _ _ ⟨ok, he, ho, hg⟩ => by
   rcases ho with ⟨_, p, hp⟩ | ⟨rfl, _⟩
   · exact (h p hp).elim
   · exact ⟨he, hg⟩
theorem ddadd (h : Pt a p) (h2 : Pt b q) (w : World) : Calls Tryz.prog 42 #[.string a, .string b] w fun e w' => ∃ t, Box (Pt t (p.add q)) ∧ e = .returned (.tuple #[.string t, .int .i64 0]) ∧ Gr w w' :=
 (dadd_any a b w).mono fun _ _ ⟨ho, hg⟩ => by
   rcases ho with ⟨p', q', hp, hq, he⟩ | ⟨hn | hn, _⟩
   · obtain rfl : p' = p := encP_inj (hp.trans h.eq)
     obtain rfl : q' = q := encP_inj (hq.trans h2.eq)
     exact ⟨_, ⟨⟨rfl⟩⟩, he, hg⟩
   · exact (h.num hn).elim
   · exact (h2.num hn).elim
theorem ddmul (h : Pt a p) (hk : k.size = 32) (w : World) : Calls Tryz.prog 39 #[.string k, .string a] w fun e w' => ∃ t, Box (Pt t (p.mul (Go.Proofs.YtafhncpaoolljaaGreat.num k))) ∧ e = .returned (.tuple #[.string t, .int .i64 0]) ∧ Gr w w' :=
 (dmul_any k a w).mono fun _ _ ⟨ho, hg⟩ => by
   rcases ho with ⟨p', hp, _, he⟩ | ⟨hn | hn, _⟩
   · obtain rfl : p' = p := encP_inj (hp.trans h.eq)
     exact ⟨_, ⟨⟨rfl⟩⟩, he, hg⟩
   · exact (h.num hn).elim
   · exact absurd hk hn
theorem ddbase (w : World) : Calls Tryz.prog 40 #[] w fun e w' => ∃ t, Box (Pt t CP.base) ∧ e = .returned (.string t) ∧ Gr w w' :=
 (rBase w).mono fun _ _ ⟨he, hg⟩ => ⟨_, ⟨⟨encP_base2.symm⟩⟩, he, hg⟩
end
end Go.Proofs.YtafhncpaoolljaaGreat.Fe
namespace Go.Proofs.YtafhncpaoolljaaGreat
set_option maxRecDepth 100000
set_option linter.unusedVariables false
open Go Go.RowKit
set_option maxRecDepth 100000 in
set_option maxHeartbeats 400000 in
theorem refIs_any (s : ByteArray) (w : World) :
   Calls Tryz.prog 38 #[.string s] w fun e w' => e = .returned (.bool (decide (s.size = 32 ∧ num s < ordL))) ∧ Below w.heap.size w w' := by
 by_cases h : s.size = 32
 · have h' : ((s.size : Int) == 32) = true := by rw [beq_iff_eq]; omega
   have H := Box.mk h; clear h
   go_enter Tryz.func38, Tryz.ntmps38
   go_wp2_with fail
   refine (digits_any s _ (by have := H.out; omega)).mono ?_
   rintro e w1 ⟨b, cap, hb, hbl, rfl, hrow, hb1⟩
   go_wp2_with fail
   refine (refMod_any (num s) s.size b cap _ (leNat_lt _) (by have := H.out; omega) hrow hbl).mono ?_
   rintro e w2 ⟨rfl, hb2⟩
   go_wp2
   go_ret
   refine ⟨?_, hb1.trans (hb2.mono hb1.size)⟩
   show Ending.returned (Value.bool ((sc (num s)).toList == s.toList)) = _
   rw [beq_toList]
   simp only [sc_num H.out, H.out, true_and]
 · have h' : ((s.size : Int) == 32) = false := by rw [beq_eq_false_iff_ne]; omega
   have H := Box.mk h; clear h
   go_enter Tryz.func38, Tryz.ntmps38
   go_wp2
   go_ret
   refine ⟨?_, Below.refl _ _⟩
   rw [decide_eq_false (fun h => H.out h.1)]; rfl
open Go Go.RowKit
@[irreducible] def dig8 (n i : Nat) : Int := ((n / 2 ^ (8 * i) % 256 : Nat) : Int)
open Go Go.RowKit
structure RaSt (w : World) (a b : ByteArray) (k : Nat) (wr : World) : Prop where
 row : wr.heap[w.heap.size]? = some (.cells (dcells (num a % 256 ^ k + num b % 256 ^ k) 33) 3 (0, 0))
 below : Below w.heap.size w wr
open Go Go.RowKit
structure RmuSt (w : World) (O : Nat) (wr : World) : Prop where
 row : wr.heap[w.heap.size]? = some (.cells (dcells O 64) 3 (0, 0))
 below : Below w.heap.size w wr
end Go.Proofs.YtafhncpaoolljaaGreat
