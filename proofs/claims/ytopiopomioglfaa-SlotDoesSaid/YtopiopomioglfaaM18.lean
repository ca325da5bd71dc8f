/- The document of sha2: Of, a kind's constants. The document of sha2: One, kind 0. The document of sha2: One, kind 1. The document of sha2: One of both kinds. Images in slots, the document's: Write, End, Read, Check. Images in slots, the document's: End, Read, Check. -/
import Derived.Test.YtopiopomioglfaaM17
import Derived.Test.YtopiopomioglfaaM08
import Derived.Test.YtopiopomioglfaaM12
import Derived.Test.YtopiopomioglfaaM16
namespace Go.Proofs.Ytopiopomioglfaa.Big
set_option maxRecDepth 100000
set_option linter.unusedVariables false
open Go Go.RowKit
open Sha
set_option maxRecDepth 100000 in
set_option maxHeartbeats 4000000 in
theorem of64_any (w : World) :
    Calls Try.prog 61 #[.int .i64 1] w fun e w' => ∃ vK vH, e = .returned (.agg (kc ⟨64, sh512, vK, vH⟩)) ∧ Own w' w.heap.size 92 vK 80 (K64.map u64v) ∧ Own w' w.heap.size 92 vH 8 (H64.map u64v) ∧ vK ≠ .slice none 0 0 ∧ vH ≠ .slice none 0 0 ∧ Below w.heap.size w w' := by
  go_enter Try.func61, Try.ntmps61
  go_upto_region 0 with (fail)
  refine wp_region_seq 1 [.new (.cells (kc kz) 109)] (by rfl) rfl (by decide) ?_
  simp only [List.take, List.zip, List.zipWith]
  try go_frame
  refine gm_alloc rfl (.cells (kc kz) 109) (fun _ => by kernel_rfl) (fun b2 hb2 hn2 => ?_)
  try go_frame
  refine gm_nil ?_
  intro w1 hw1 hF1
  simp only [List.drop]
  try go_frame
  have HW1 := Box.mk hw1; have R1 := Box.mk hF1.2; have G2 := Box.mk hb2
  clear hw1 hF1 hb2 hn2
  go_upto_region 1 with (fail)
  refine wp_region_seq 7 [.flo, .flo, .flo, .flo, .flo, .new (.cells (kc kz) 109), .cha] (by rfl) rfl (by decide) ?_
  simp only [List.take, List.zip, List.zipWith]
  try go_frame
  refine gm_flo (.agg (tc ⟨2, 13, 22⟩)) (fun w1 _ => by kernel_rfl) ?_
  try go_frame
  refine gm_flo (.agg (tc ⟨6, 11, 25⟩)) (fun w1 _ => by kernel_rfl) ?_
  try go_frame
  refine gm_flo (.agg (tc ⟨7, 18, 3⟩)) (fun w1 _ => by kernel_rfl) ?_
  try go_frame
  refine gm_flo (.agg (tc ⟨17, 19, 10⟩)) (fun w1 _ => by kernel_rfl) ?_
  try go_frame
  refine gm_flo (.agg (kc ⟨32, sh256, .slice none 0 0, .slice none 0 0⟩)) (fun w1 _ => by kernel_rfl) ?_
  try go_frame
  refine gm_alloc rfl (.cells (kc kz) 109) (fun _ => by kernel_rfl) (fun b hb hn => ?_)
  try go_frame
  refine gm_storeN (.tmp 3) (.tmp 11) rfl b (kc kz) (kc ⟨32, sh256, .slice none 0 0, .slice none 0 0⟩) 109 rfl rfl (by simp) rfl kc_info rfl (kc_one _ rfl rfl) (fun _ => True) (fun _ h => ⟨trivial, h.2⟩) Stb.tt (fun _ _ => trivial) ?_
  try go_frame
  refine gm_nil ?_
  intro w2 hw2 hF2
  simp only [List.drop]
  try go_frame
  have R2 := Box.mk (hw2.block R1.out); have HW2 := Box.mk (HW1.out.trans hw2); have RB := Box.mk hF2.2
  have GB : Box (w.heap.size ≤ b) := ⟨Nat.le_trans HW1.out.size hb⟩
  have NE : Box (b ≠ b2) := ⟨Nat.ne_of_gt (Nat.lt_of_lt_of_le (Array.getElem?_eq_some_iff.1 R1.out).1 hb)⟩
  clear hw2 hF2 HW1 R1 hb hn
  go_upto_region 4 with (fail)
  refine wp_region_seq 5 [.flo, .flo, .flo, .flo, .flo] (by rfl) rfl (by decide) ?_
  simp only [List.take, List.zip, List.zipWith]
  try go_frame
  refine gm_flo (.agg (tc ⟨28, 34, 39⟩)) (fun w1 _ => by kernel_rfl) ?_
  try go_frame
  refine gm_flo (.agg (tc ⟨14, 18, 41⟩)) (fun w1 _ => by kernel_rfl) ?_
  try go_frame
  refine gm_flo (.agg (tc ⟨1, 8, 7⟩)) (fun w1 _ => by kernel_rfl) ?_
  try go_frame
  refine gm_flo (.agg (tc ⟨19, 61, 6⟩)) (fun w1 _ => by kernel_rfl) ?_
  try go_frame
  refine gm_flo (.agg (kc ⟨64, sh512, .slice none 0 0, .slice none 0 0⟩)) (fun w1 _ => by kernel_rfl) ?_
  try go_frame
  refine gm_nil ?_
  intro w3 hw3 hF3
  simp only [List.drop]
  try go_frame
  have RB' := Box.mk (hw3.block RB.out); have R2' := Box.mk (hw3.block R2.out); have HW3 := Box.mk (HW2.out.trans hw3)
  clear hw3 hF3
  refine wpList_storeK rfl (.tmp 3) (.tmp 18) rfl b ⟨64, sh512, .slice none 0 0, .slice none 0 0⟩ _ (kc_one _ rfl rfl) RB'.out rfl rfl ?_
  have RB'' := Box.mk (show (w3.setRow b (kc ⟨64, sh512, .slice none 0 0, .slice none 0 0⟩)).heap[b]? = some (.cells (kc ⟨64, sh512, .slice none 0 0, .slice none 0 0⟩) 109 (0, 0)) from setRow_heap _ _ _ _ _ _ RB'.out)
  have R2'' := Box.mk ((setRow_other w3 b b2 (kc ⟨64, sh512, .slice none 0 0, .slice none 0 0⟩) (Ne.symm NE.out)).trans R2'.out)
  have HW4 := Box.mk (HW3.out.setRow GB.out (kc ⟨64, sh512, .slice none 0 0, .slice none 0 0⟩))
  clear HW2 HW3 RB R2 RB' R2'
  generalize w3.setRow b (kc ⟨64, sh512, .slice none 0 0, .slice none 0 0⟩) = w4 at RB'' R2'' HW4 ⊢
  go_wp2_with fail
  refine (primes_any 80 (by omega) w4).mono ?_
  rintro e w5 ⟨vl, rfl, ol, nl, hw5⟩
  obtain ⟨gl, cl, rfl, _, hcl, hgl, _⟩ := ol.cells nl
  have R5 := Box.mk ((Gr.of hw5).block RB''.out); have R25 := Box.mk ((Gr.of hw5).block R2''.out); have HW5 := Box.mk (HW4.out.trans (Gr.of hw5)); have LB := Box.mk (Array.getElem?_eq_some_iff.1 RB''.out).1
  have GL := Box.mk hgl
  have NL : Box (gl ≠ b) := ⟨by
    have h1 := ol.lt gl rfl
    have := LB.out; omega⟩
  have HCL : Box (∀ j, j < 80 → w5.cell? ⟨gl, j, none⟩ = some (.int .i64 (ps.getD j 0 : Nat))) := ⟨fun j hj => hcl j _ (by rw [iv_at _ _ (by rw [List.length_take, ps_len]; omega), take_getD _ _ _ hj])⟩
  have S0 : Box (OSt w5 b 64 sh512 (.slice none 0 0) (.slice none 0 0) 0 0 [] [] w5) := ⟨⟨Upd.refl _ _, R5.out, Own.nil _ _ _, Own.nil _ _ _, by simp [Value.ownBlock]⟩⟩
  have B5 : Box (b < w5.heap.size) := ⟨(Array.getElem?_eq_some_iff.1 R5.out).1⟩
  clear hcl hgl hw5 ol nl R5 LB RB'' R2'' HW4
  go_wp2_with fail
  go_loopw [6] (fun i wr => ∃ n : Nat, n ≤ 80 ∧ i = .int .i64 n ∧ ∃ vK vH, OSt w5 b 64 sh512 vK vH n (min n 8) (K64.take n) (H64.take n) wr ∧ (0 < n → vK ≠ .slice none 0 0 ∧ vH ≠ .slice none 0 0)) (fun i _ => 80 - (intOf i).toNat)
  case atStart => exact ⟨0, by omega, rfl, _, _, by simpa using S0.out, by omega⟩
  case round =>
    clear S0
    obtain ⟨n, hn, rfl, vK, vH, st, hnn⟩ := hrel
    have ST := Box.mk st; have NN := Box.mk hnn
    clear st hnn
    by_cases hlt : n < 80
    · have hltI : (n : Int) < 80 := by omega
      have NR := Box.mk (show ps.getD n 0 < 1000 from by
        rw [List.getD_eq_getElem?_getD, List.getElem?_eq_getElem (by rw [ps_len]; omega)]; exact ps_lt _ (List.getElem_mem _))
      have KA := K64_at n hlt
      have HA := Box.mk (H64_at n)
      have KT := Box.mk (take_snoc K64 n (by rw [K64_len]; exact hlt))
      have HT := Box.mk (take_snoc H64 n)
      have HC : wr.cell? ⟨gl, n, none⟩ = some (.int .i64 (ps.getD n 0 : Nat)) := (World.cell?_of_block (w := w5) (ST.out.upd.block gl GL.out (by simpa using NL.out))).trans (HCL.out n hlt)
      generalize ps.getD n 0 = p at NR KA HA HC
      have RL := root_lt p 3
      obtain ⟨x, hx⟩ : ∃ x, x = rootF p 3 := ⟨_, rfl⟩
      rw [← hx] at KA RL
      obtain ⟨y, hy⟩ : ∃ y, y = K64.getD n 0 := ⟨_, rfl⟩
      rw [← hy] at KA
      have hsh : (x : Int) / 1 = (y : Int) := by omega
      have HX := Box.mk hx; have HY := Box.mk hy; have HCB := Box.mk HC; have HC0 := Box.mk ((World.cell?_of_block (w := w5) (ST.out.upd.block gl GL.out (by simpa using NL.out))).symm.trans HC)
      clear hx hy KA RL HC
      go_upto_region 10 with (fail)
      have cK : wr.drew.cell? ⟨b, 13, none⟩ = some vK := cell_of_row _ _ _ _ _ _ ST.out.row
      have cW : wr.drew.cell? ⟨b, 0, none⟩ = some (.int .i64 64) := cell_of_row _ _ _ _ _ _ ST.out.row
      have CK := Box.mk cK; have CW := Box.mk cW
      have HSl : Box (∀ k, vK.ownBlock = some k → k ∈ vK.ownBlock.toList) := ⟨fun k hk => by rw [hk]; simp⟩
      have NB : Box (b ∉ vK.ownBlock.toList) := ⟨fun hm => Own.notK ST.out.oK ST.out.row b (by simpa using hm) rfl⟩
      have NG : Box (gl ∉ vK.ownBlock.toList) := ⟨fun hm => by have := (ST.out.oK.lt gl (by simpa using hm)).1; have := GL.out; omega⟩
      have bw : Box (b < wr.drew.heap.size) := ⟨(Array.getElem?_eq_some_iff.1 ST.out.row).1⟩
      have gw : Box (gl < wr.drew.heap.size) := ⟨Nat.lt_of_lt_of_le GL.out ST.out.upd.size⟩
      clear cK cW
      refine wp_region_mixS vK.ownBlock.toList (fun w => Own w w5.heap.size 92 vK n ((K64.take n).map u64v) ∧ w5.heap.size ≤ w.heap.size) (fun w1 w2 hg h => ⟨h.1.below hg, Nat.le_trans h.2 hg.size⟩) ⟨ST.out.oK.drew, ST.out.upd.size⟩ (fun k hk => (ST.out.oK.lt k (by simpa using hk)).2) 14 [.flo, .flo, .flo, .flo, .flo, .flo, .cha, .flo, .flo, .flo, .flo, .cha, .cha, .flo] (by kernel_rfl) (by kernel_rfl) rfl ?_
      simp only [List.take, List.zip, List.zipWith]
      try go_frame
      refine gm_flo (.pointer (some ⟨b, 13, none⟩)) (fun w1 hw1 => ?_) ?_
      case refine_1 =>
        go_simp
      try go_frame
      refine gm_flo (vK) (fun w1 hw1 => ?_) ?_
      case refine_1 =>
        have hc := cellS hw1 bw.out NB.out CK.out
        go_simp
      try go_frame
      refine gm_flo (.slice (some ⟨gl, 0, none⟩) 80 cl) (fun w1 hw1 => ?_) ?_
      case refine_1 =>
        go_simp
      try go_frame
      refine gm_flo (.int .i64 (n : Nat)) (fun w1 hw1 => ?_) ?_
      case refine_1 =>
        go_simp
      try go_frame
      refine gm_flo (.pointer (some ⟨gl, n, none⟩)) (fun w1 hw1 => ?_) ?_
      case refine_1 =>
        go_simp
      try go_frame
      refine gm_flo (.int .i64 (p : Nat)) (fun w1 hw1 => ?_) ?_
      case refine_1 =>
        have hc := cellS hw1 gw.out NG.out HCB.out
        go_simp
      try go_frame
      refine gm_call [.int .i64 (p : Nat), .int .i64 3] (by kernel_rfl) rfl rfl (fun _ _ hg h => ⟨h.1.below hg, Nat.le_trans h.2 hg.size⟩) (fun w1 hw1 hF1 => (root_3 p w1 NR.out).mono ?_)
      rintro e w2 ⟨rfl, hw2⟩
      refine ⟨_, rfl, hw2, ?_⟩
      clear hw1 hF1 w1 hw2 w2
      try go_frame
      rw [← HX.out]
      refine gm_flo (.pointer (some ⟨b, 0, none⟩)) (fun w1 hw1 => ?_) ?_
      case refine_1 =>
        go_simp
      try go_frame
      refine gm_flo (.int .i64 64) (fun w1 hw1 => ?_) ?_
      case refine_1 =>
        have hc := cellS hw1 bw.out NB.out CW.out
        go_simp
      try go_frame
      refine gm_flo (.int .i64 0) (fun w1 hw1 => ?_) ?_
      case refine_1 =>
        have hwr : IntKind.i64.wrap 0 = 0 := rfl
        go_simp
      try go_frame
      refine gm_flo (.int .u64 (y : Nat)) (fun w1 hw1 => ?_) ?_
      case refine_1 =>
        go_simp
      try go_frame
      refine gm_one (e := 92) (.tmp 36) rfl (.int .u64 (y : Nat)) rfl (fun _ => by kernel_rfl) (fun _ _ hg h => ⟨h.1.below hg, Nat.le_trans h.2 hg.size⟩) (fun b1 hb1 => ?_)
      try go_frame
      refine gm_app1 (.tmp 27) (.tmp 37) 107 rfl w5.heap.size 92 (.int .u64 0) 8 Try.underlying107 (by kernel_rfl) rfl (vK) (n) ((K64.take n).map u64v) rfl b1 (.int .u64 (y : Nat)) rfl rfl (by omega) (by omega) HSl.out (fun w1 hw1 h => ⟨h.1.1, h.1.2, (cell_of_row _ _ _ _ _ _ h.2).trans rfl⟩) (fun v' hv' hv2 => ?_)
      try go_frame
      refine gm_flo (.pointer (some ⟨b, 13, none⟩)) (fun w1 hw1 => ?_) ?_
      case refine_1 =>
        go_simp
      try go_frame
      refine gm_nil ?_
      intro w9 hw9 hF9
      simp only [List.drop]
      try go_frame
      obtain ⟨g', cap', rfl, _, _, _, _⟩ := hF9.cells hv'
      have hf : w9.frozen? ⟨b, 13, none⟩ = false := frozen_of_row _ _ _ _ _ (hw9.at NB.out (show wr.drew.heap[b]? = _ from ST.out.row))
      have hcc : w9.cell? ⟨b, 13, none⟩ = some vK := cellS hw9 bw.out NB.out CK.out
      have ST2 : Box (OSt w5 b 64 sh512 (.slice (some ⟨g', 0, none⟩) (n + 1) cap') vH (n + 1) (min n 8) (K64.take (n + 1)) (H64.take n) (w9.setCell ⟨b, 13, none⟩ (.slice (some ⟨g', 0, none⟩) (n + 1) cap'))) := ⟨by
        rw [KT.out, ← HY.out]; exact ST.out.drew.addK hw9 hF9 hv2 B5.out⟩
      clear hw9 hF9 hv2 hv' CK CW HSl NB NG bw gw ST HX HY KT hsh HCB

      go_upto_if 41 with (fail)
      generalize w9.setCell ⟨b, 13, none⟩ (.slice (some ⟨g', 0, none⟩) (n + 1) cap') = wq at ST2 ⊢
      clear hf hcc
      by_cases h8 : n < 8
      · have h8I : (n : Int) < 8 := by omega
        have m8 : min n 8 = n := by omega
        have m9 : min (n + 1) 8 = n + 1 := by omega
        rw [m8] at ST2
        have HA2 := HA.out h8
        have RL := root_lt p 2
        obtain ⟨x, hx⟩ : ∃ x, x = rootF p 2 := ⟨_, rfl⟩
        rw [← hx] at HA2 RL
        obtain ⟨y, hy⟩ : ∃ y, y = H64.getD n 0 := ⟨_, rfl⟩
        rw [← hy] at HA2
        have hsh : (x : Int) / 1 = (y : Int) := by omega
        have HX := Box.mk hx; have HY := Box.mk hy; have M9 := Box.mk m9
        have HT2 := Box.mk (HT.out (by rw [H64_len]; exact h8))
        have HCQ : Box (wq.drew.cell? ⟨gl, n, none⟩ = some (.int .i64 (p : Nat))) := ⟨(World.cell?_of_block (w := w5) (ST2.out.upd.block gl GL.out (by simpa using NL.out))).trans HC0.out⟩
        clear hx hy HA2 RL HA HT m8 m9 h8
        go_upto_region 12 with (fail)
        have CK : Box (wq.drew.cell? ⟨b, 14, none⟩ = some vH) := ⟨cell_of_row _ _ _ _ _ _ ST2.out.row⟩
        have CW : Box (wq.drew.cell? ⟨b, 0, none⟩ = some (.int .i64 64)) := ⟨cell_of_row _ _ _ _ _ _ ST2.out.row⟩
        have HSl : Box (∀ k, vH.ownBlock = some k → k ∈ vH.ownBlock.toList) := ⟨fun k hk => by rw [hk]; simp⟩
        have NB : Box (b ∉ vH.ownBlock.toList) := ⟨fun hm => Own.notK ST2.out.oH ST2.out.row b (by simpa using hm) rfl⟩
        have NG : Box (gl ∉ vH.ownBlock.toList) := ⟨fun hm => by have := (ST2.out.oH.lt gl (by simpa using hm)).1; have := GL.out; omega⟩
        have bw : Box (b < wq.drew.heap.size) := ⟨(Array.getElem?_eq_some_iff.1 ST2.out.row).1⟩
        have gw : Box (gl < wq.drew.heap.size) := ⟨Nat.lt_of_lt_of_le GL.out ST2.out.upd.size⟩
        refine wp_region_mixS vH.ownBlock.toList (fun w => Own w w5.heap.size 92 vH n ((H64.take n).map u64v) ∧ w5.heap.size ≤ w.heap.size) (fun w1 w2 hg h => ⟨h.1.below hg, Nat.le_trans h.2 hg.size⟩) ⟨ST2.out.oH.drew, ST2.out.upd.size⟩ (fun k hk => (ST2.out.oH.lt k (by simpa using hk)).2) 14 [.flo, .flo, .flo, .flo, .flo, .flo, .cha, .flo, .flo, .flo, .flo, .cha, .cha, .flo] (by kernel_rfl) (by kernel_rfl) rfl ?_
        simp only [List.take, List.zip, List.zipWith]
        try go_frame
        refine gm_flo (.pointer (some ⟨b, 14, none⟩)) (fun w1 hw1 => ?_) ?_
        case refine_1 =>
          go_simp
        try go_frame
        refine gm_flo (vH) (fun w1 hw1 => ?_) ?_
        case refine_1 =>
          have hc := cellS hw1 bw.out NB.out CK.out
          go_simp
        try go_frame
        refine gm_flo (.slice (some ⟨gl, 0, none⟩) 80 cl) (fun w1 hw1 => ?_) ?_
        case refine_1 =>
          go_simp
        try go_frame
        refine gm_flo (.int .i64 (n : Nat)) (fun w1 hw1 => ?_) ?_
        case refine_1 =>
          go_simp
        try go_frame
        refine gm_flo (.pointer (some ⟨gl, n, none⟩)) (fun w1 hw1 => ?_) ?_
        case refine_1 =>
          go_simp
        try go_frame
        refine gm_flo (.int .i64 (p : Nat)) (fun w1 hw1 => ?_) ?_
        case refine_1 =>
          have hc := cellS hw1 gw.out NG.out HCQ.out
          go_simp
        try go_frame
        refine gm_call [.int .i64 (p : Nat), .int .i64 2] (by kernel_rfl) rfl rfl (fun _ _ hg h => ⟨h.1.below hg, Nat.le_trans h.2 hg.size⟩) (fun w1 hw1 hF1 => (root_2 p w1 NR.out).mono ?_)
        rintro e w2 ⟨rfl, hw2⟩
        refine ⟨_, rfl, hw2, ?_⟩
        clear hw1 hF1 w1 hw2 w2
        try go_frame
        rw [← HX.out]
        refine gm_flo (.pointer (some ⟨b, 0, none⟩)) (fun w1 hw1 => ?_) ?_
        case refine_1 =>
          go_simp
        try go_frame
        refine gm_flo (.int .i64 64) (fun w1 hw1 => ?_) ?_
        case refine_1 =>
          have hc := cellS hw1 bw.out NB.out CW.out
          go_simp
        try go_frame
        refine gm_flo (.int .i64 0) (fun w1 hw1 => ?_) ?_
        case refine_1 =>
          have hwr : IntKind.i64.wrap 0 = 0 := rfl
          go_simp
        try go_frame
        refine gm_flo (.int .u64 (y : Nat)) (fun w1 hw1 => ?_) ?_
        case refine_1 =>
          go_simp
        try go_frame
        refine gm_one (e := 92) (.tmp 52) rfl (.int .u64 (y : Nat)) rfl (fun _ => by kernel_rfl) (fun _ _ hg h => ⟨h.1.below hg, Nat.le_trans h.2 hg.size⟩) (fun b1 hb1 => ?_)
        try go_frame
        refine gm_app1 (.tmp 43) (.tmp 53) 107 rfl w5.heap.size 92 (.int .u64 0) 8 Try.underlying107 (by kernel_rfl) rfl (vH) (n) ((H64.take n).map u64v) rfl b1 (.int .u64 (y : Nat)) rfl rfl (by omega) (by omega) HSl.out (fun w1 hw1 h => ⟨h.1.1, h.1.2, (cell_of_row _ _ _ _ _ _ h.2).trans rfl⟩) (fun v' hv' hv2 => ?_)
        try go_frame
        refine gm_flo (.pointer (some ⟨b, 14, none⟩)) (fun w1 hw1 => ?_) ?_
        case refine_1 =>
          go_simp
        try go_frame
        refine gm_nil ?_
        intro w9 hw9 hF9
        simp only [List.drop]
        try go_frame
        obtain ⟨g2, cap2, rfl, _, _, _, _⟩ := hF9.cells hv'
        have hf : w9.frozen? ⟨b, 14, none⟩ = false := frozen_of_row _ _ _ _ _ (hw9.at NB.out (show wq.drew.heap[b]? = _ from ST2.out.row))
        have hcc : w9.cell? ⟨b, 14, none⟩ = some vH := cellS hw9 bw.out NB.out CK.out
        have ST3 : Box (OSt w5 b 64 sh512 (.slice (some ⟨g', 0, none⟩) (n + 1) cap') (.slice (some ⟨g2, 0, none⟩) (n + 1) cap2) (n + 1) (n + 1) (K64.take (n + 1)) (H64.take (n + 1)) (w9.setCell ⟨b, 14, none⟩ (.slice (some ⟨g2, 0, none⟩) (n + 1) cap2))) := ⟨by
          rw [HT2.out, ← HY.out]; exact ST2.out.drew.addH hw9 hF9 hv2 B5.out⟩
        clear hw9 hF9 hv2 hv' CK CW HSl NB NG bw gw ST2 HX HY HT2 hsh HCQ
        go_wp2_with fail
        exact ⟨⟨n + 1, by omega, by go_num, _, _, by rw [M9.out]; exact ST3.out, fun _ => ⟨by simp, by simp⟩⟩, by simp [intOf]; omega⟩
      · have h8I : ¬ (n : Int) < 8 := by omega
        have M9 : Box (min (n + 1) 8 = min n 8) := ⟨by omega⟩
        have HTE : Box (H64.take (n + 1) = H64.take n) := ⟨by rw [List.take_of_length_le (by rw [H64_len]; omega), List.take_of_length_le (by rw [H64_len]; omega)]⟩
        have NN2 := Box.mk (NN.out (by omega)).2
        clear HA HT h8
        go_wp2_with fail
        exact ⟨⟨n + 1, by omega, by go_num, _, _, by rw [M9.out, HTE.out]; exact ST2.out, fun _ => ⟨by simp, NN2.out⟩⟩, by simp [intOf]; omega⟩
    · obtain rfl : n = 80 := by omega
      have NN := Box.mk (NN.out (by omega))
      have ST : Box (OSt w5 b 64 sh512 vK vH 80 8 K64 H64 wr) := ⟨by
        have := ST.out
        rwa [List.take_of_length_le (by rw [K64_len]; omega), List.take_of_length_le (by rw [H64_len]; omega)] at this⟩
      have NE2 : Box (b2 ∉ [b]) := ⟨by simpa using Ne.symm NE.out⟩
      have R2w : Box (wr.heap[b2]? = some (.cells (kc kz) 109 (0, 0))) := ⟨(ST.out.upd.block b2 (Array.getElem?_eq_some_iff.1 R25.out).1 NE2.out).trans R25.out⟩
      have HONE : Box ((kc ⟨64, sh512, vK, vH⟩).all (·.oneCell') = true) := ⟨by
        obtain ⟨g1, c1, h1, _⟩ := ST.out.oK.cells NN.out.1
        obtain ⟨g2, c2, h2, _⟩ := ST.out.oH.cells NN.out.2
        exact kc_one _ (by show vK.oneCell' = true; rw [h1]; rfl) (by show vH.oneCell' = true; rw [h2]; rfl)⟩
      clear hlt hn
      go_upto_region 13 with (fail)
      refine wp_region_seq 1 [.flo] (by rfl) rfl (by decide) ?_
      simp only [List.take, List.zip, List.zipWith]
      try go_frame
      refine gm_loadK (.tmp 3) rfl b ⟨64, sh512, vK, vH⟩ ST.out.row (by simp) rfl ?_
      try go_frame
      refine gm_nil ?_
      intro w9 hw9 hF9
      simp only [List.drop]
      try go_frame
      have R9 := Box.mk (hw9.block R2w.out)
      have RK := Box.mk (show (w9.setRow b2 (kc ⟨64, sh512, vK, vH⟩)).heap[b2]? = some (.cells (kc ⟨64, sh512, vK, vH⟩) 109 (0, 0)) from setRow_heap _ _ _ _ _ _ R9.out)
      have OK9 : Box (Own (w9.setRow b2 (kc ⟨64, sh512, vK, vH⟩)) w5.heap.size 92 vK 80 (K64.map u64v)) := ⟨(ST.out.oK.below hw9).keep fun k hk => setRow_other _ _ _ _ (Own.notK (ST.out.oK.below hw9) R9.out k hk)⟩
      have OH9 : Box (Own (w9.setRow b2 (kc ⟨64, sh512, vK, vH⟩)) w5.heap.size 92 vH 8 (H64.map u64v)) := ⟨(ST.out.oH.below hw9).keep fun k hk => setRow_other _ _ _ _ (Own.notK (ST.out.oH.below hw9) R9.out k hk)⟩
      have BL : Box (Below w.heap.size w (w9.setRow b2 (kc ⟨64, sh512, vK, vH⟩))) := ⟨below_setRow ((Upd.below HW5.out ST.out.upd (by intro i hi; simp at hi; subst hi; exact GB.out) HW5.out.size).trans (hw9.below.mono (Nat.le_trans HW5.out.size ST.out.upd.size))) G2.out _⟩
      have SZ : Box (w.heap.size ≤ w5.heap.size) := ⟨HW5.out.size⟩
      clear hw9 hF9
      refine wpList_storeK rfl (.tmp 2) (.tmp 56) rfl b2 ⟨64, sh512, vK, vH⟩ kz HONE.out R9.out rfl rfl ?_
      generalize w9.setRow b2 (kc ⟨64, sh512, vK, vH⟩) = wz at RK OK9 OH9 BL ⊢
      go_wp2_with fail
      refine bodyPost_ret (results_cell_row (p := 2) (ty := 109) rfl _ _ b2 109 (kc ⟨64, sh512, vK, vH⟩) (0, 0) _ rfl RK.out Try.underlying109 rfl (by kernel_rfl)) rfl ⟨vK, vH, rfl, OK9.out.base SZ.out, OH9.out.base SZ.out, NN.out.1, NN.out.2, BL.out⟩
end Go.Proofs.Ytopiopomioglfaa.Big
namespace Go.Proofs.Ytopiopomioglfaa.Big
set_option maxRecDepth 100000
set_option linter.unusedVariables false
open Go Go.RowKit
open Sha
theorem run_snd (B : Nat) (f : V8 → List UInt8 → V8) : ∀ n v l, (run B f n v l).2 = l.drop (B * n)
  | 0, v, l => by simp [run]
  | n + 1, v, l => by rw [run, run_snd B f n, List.drop_drop, Nat.mul_add, Nat.mul_one, Nat.add_comm]
theorem run_succ (B : Nat) (f : V8 → List UInt8 → V8) (n : Nat) (v : V8) (l : List UInt8) : (run B f (n + 1) v l).1 = f (run B f n v l).1 ((l.drop (B * n)).take B) := by
  rw [run_add, run_snd]; rfl
theorem wordsOf_take (n : Nat) : ∀ c l, wordsOf n c (l.take (n * c)) = wordsOf n c l
  | 0, l => rfl
  | c + 1, l => by
    rw [wordsOf, wordsOf, List.take_take, List.drop_take, show min n (n * (c + 1)) = n from Nat.min_eq_left (by rw [Nat.mul_add]; omega), show n * (c + 1) - n = n * c from by rw [Nat.mul_add]; omega, wordsOf_take n c]
theorem be_stepL (l : List UInt8) (q j : Nat) (h : q + j < l.length) : be ((l.drop q).take (j + 1)) = 256 * be ((l.drop q).take j) + (l.getD (q + j) 0).toNat := by
  have hl : j < (l.drop q).length := by rw [List.length_drop]; omega
  rw [List.take_succ_eq_append_getElem hl, be_snoc, List.getElem_drop, List.getD_eq_getElem?_getD, List.getElem?_eq_getElem h]; rfl
theorem byv_at (L : List UInt8) (j : Nat) (h : j < L.length) : (L.map byv)[j]? = some (.int .u8 ((L.getD j 0).toNat : Nat)) := by
  rw [List.getElem?_map, List.getElem?_eq_getElem h, List.getD_eq_getElem?_getD, List.getElem?_eq_getElem h]; rfl
theorem plus_ok (W : Nat) (v u : V8) : (plus W v u).Ok W :=
  ⟨Nat.mod_lt _ (Nat.two_pow_pos _), Nat.mod_lt _ (Nat.two_pow_pos _), Nat.mod_lt _ (Nat.two_pow_pos _), Nat.mod_lt _ (Nat.two_pow_pos _), Nat.mod_lt _ (Nat.two_pow_pos _), Nat.mod_lt _ (Nat.two_pow_pos _), Nat.mod_lt _ (Nat.two_pow_pos _), Nat.mod_lt _ (Nat.two_pow_pos _)⟩
theorem H32_eq : H32 = k256.h.list := by unfold H32; rfl
theorem H64_eq : H64 = k512.h.list := by unfold H64; rfl
theorem K64_eq : K64 = K := by unfold K64; rfl
theorem step32_eq (v : V8) (l : List UInt8) : k256.step v (l.take 64) = blk 32 sh256 K32 v (wordsOf 4 16 l) := by
  rw [K32_eq, ← wordsOf_take 4 16 l]; rfl
theorem step64_eq (v : V8) (l : List UInt8) : k512.step v (l.take 128) = blk 64 sh512 K64 v (wordsOf 8 16 l) := by
  rw [K64_eq, ← wordsOf_take 8 16 l]; rfl
theorem K32_lt : ∀ x ∈ K32, x < 2 ^ 64 := by rw [K32_eq]; decide +kernel
theorem K64_lt : ∀ x ∈ K64, x < 2 ^ 64 := by rw [K64_eq]; decide +kernel
theorem h32_ok : k256.h.Ok 32 := ⟨by decide, by decide, by decide, by decide, by decide, by decide, by decide, by decide⟩
theorem h64_ok : k512.h.Ok 64 := ⟨by decide, by decide, by decide, by decide, by decide, by decide, by decide, by decide⟩
/-- A kind's rows. -/
structure KH (gK gH n : Nat) (Kl Hl : List Nat) (w : World) : Prop where
  cK : ∀ j, j < n → w.cell? ⟨gK, j, none⟩ = some (.int .u64 (Kl.getD j 0 : Nat))
  cH : ∀ j, j < 8 → w.cell? ⟨gH, j, none⟩ = some (.int .u64 (Hl.getD j 0 : Nat))
  lK : gK < w.heap.size
  lH : gH < w.heap.size
theorem size_listB (s : ByteArray) : s.data.toList.length = s.size := by simp
theorem KH.below {gK gH n : Nat} {Kl Hl : List Nat} {w w' : World} (h : KH gK gH n Kl Hl w) (hb : Below w.heap.size w w') : KH gK gH n Kl Hl w' :=
  ⟨fun j hj => (hb.cell (p := ⟨gK, j, none⟩) h.lK).trans (h.cK j hj), fun j hj => (hb.cell (p := ⟨gH, j, none⟩) h.lH).trans (h.cH j hj), Nat.lt_of_lt_of_le h.lK hb.size, Nat.lt_of_lt_of_le h.lH hb.size⟩
theorem KH.stb (gK gH n : Nat) (Kl Hl : List Nat) : Stb (KH gK gH n Kl Hl) := fun _ _ hg h => h.below hg
theorem KH.setRow {gK gH n : Nat} {Kl Hl : List Nat} {w : World} (h : KH gK gH n Kl Hl w) {b : Nat} (h1 : b ≠ gK) (h2 : b ≠ gH) (cs : Array Value) : KH gK gH n Kl Hl (w.setRow b cs) :=
  ⟨fun j hj => (World.cell?_of_block (w := w) (setRow_other _ _ _ _ (Ne.symm h1))).trans (h.cK j hj), fun j hj => (World.cell?_of_block (w := w) (setRow_other _ _ _ _ (Ne.symm h2))).trans (h.cH j hj), by rw [setRow_size]; exact h.lK, by rw [setRow_size]; exact h.lH⟩

/-- The bytes, a mark, zeros, the first bytes of the length. -/
def padS32 (l : List UInt8) (m j : Nat) : List UInt8 := l ++ (128 : UInt8) :: (List.replicate m 0 ++ (bytesOf (8 * l.length) 8).take j)
theorem padS32_zero (l : List UInt8) (m : Nat) : padS32 l (m + 1) 0 = padS32 l m 0 ++ [0] := by simp [padS32, List.replicate_succ']
theorem padS32_step (l : List UInt8) (m j : Nat) (h : j < 8) : padS32 l m (j + 1) = padS32 l m j ++ [UInt8.ofNat (8 * l.length / 256 ^ (8 - 1 - j))] := by
  simp [padS32, bytesOf_step _ _ _ h]
theorem padS32_all (l : List UInt8) : padS32 l (zeros 64 l.length) 8 = l ++ padB 64 l.length := by
  unfold padS32 padB
  rw [List.take_of_length_le (by rw [bytesOf_len]; exact Nat.le_refl _)]
theorem padS32_len (l : List UInt8) (m j : Nat) (h : j ≤ 8) : (padS32 l m j).length = l.length + 1 + m + j := by
  simp [padS32, bytesOf_len]; omega
theorem zeros32 (n : Nat) : (n + 1 + zeros 64 n + 8) % 64 = 0 ∧ ∀ j, j < zeros 64 n → (n + 1 + j + 8) % 64 ≠ 0 := by
  unfold zeros
  exact ⟨by omega, fun j hj => by omega⟩

set_option maxRecDepth 100000 in
set_option maxHeartbeats 8000000 in
theorem one32_any (s : ByteArray) (hs : s.size ≤ 900000) (w : World) :
    Calls Try.prog 40 #[.int .i64 0, .string s] w fun e w' => e = .returned (.tuple #[.string ⟨(k256.sum s.data.toList).toArray⟩, .int .i64 0]) ∧ Below w.heap.size w w' := by
  obtain ⟨R, hR⟩ : ∃ R, R = k256.sum s.data.toList := ⟨_, rfl⟩
  rw [← hR]
  have HR := Box.mk hR; have HS := Box.mk hs
  clear hR hs
  go_enter Try.func40, Try.ntmps40
  go_upto_region 3 with (fail)
  refine wp_region_seq 4 [.flo, .cha, .new (.cells (kc kz) 109), .cha] (by rfl) rfl (by decide) ?_
  simp only [List.take, List.zip, List.zipWith]
  try go_frame
  refine gm_move (.tmp 0) (.inl rfl) (.int .i64 0) rfl ?_
  try go_frame
  refine gm_callF [.int .i64 0] (by kernel_rfl) rfl rfl (fun w1 hw1 _ => (of32_any w1).mono ?_)
  rintro e w2 ⟨vK, vH, rfl, oK, oH, nK, nH, hw2⟩
  obtain ⟨gK, cK, rfl, hgK, hcK, hlK, _⟩ := oK.cells nK
  obtain ⟨gH, cH, rfl, hgH, hcH, hlH, _⟩ := oH.cells nH
  have oK' := oK.base hw1.size; have oH' := oH.base hw1.size
  refine ⟨_, rfl, hw2, KH gK gH 64 K32 H32, [gK, gH], KH.stb _ _ _ _ _, ?_, ?_, ?_⟩
  · exact ⟨fun j hj => hcK j _ (map_at _ _ (by rw [K32_len]; exact hj)), fun j hj => hcH j _ (map_at _ _ (by rw [H32_len]; exact hj)), hlK, hlH⟩
  · intro b hb
    simp at hb
    rcases hb with rfl | rfl
    · exact ⟨hgK, hlK⟩
    · exact ⟨hgH, hlH⟩
  clear hcK hcH hlK hlH oK oH oK' oH' nK nH hw1 hw2 hgK hgH
  try go_frame
  refine gm_alloc rfl (.cells (kc kz) 109) (fun _ => by kernel_rfl) (fun b6 hb6 hn6 => ?_)
  try go_frame
  have n1 : b6 ≠ gK := fun h => hn6 (by simp [h])
  have n2 : b6 ≠ gH := fun h => hn6 (by simp [h])
  refine gm_storeN (.tmp 6) (.tmp 26) rfl b6 (kc kz) (kc ⟨32, sh256, .slice (some ⟨gK, 0, none⟩) 64 cK, .slice (some ⟨gH, 0, none⟩) 8 cH⟩) 109 rfl rfl (by simp) rfl kc_info rfl (kc_one _ rfl rfl) (KH gK gH 64 K32 H32) (fun _ h => h) (KH.stb _ _ _ _ _) (fun _ h => h.setRow n1 n2 _) ?_
  try go_frame
  refine gm_nil ?_
  intro w1 hw1 hF1
  simp only [List.drop]
  try go_frame
  have B1 := Box.mk hw1.below; have HK := Box.mk hF1.1; have R6 := Box.mk hF1.2
  clear hw1 hF1 n1 n2 hb6 hn6
  obtain ⟨SB, hSB⟩ : ∃ SB, SB = w1.heap.size := ⟨_, rfl⟩
  have hrl : s.size = s.data.toList.length := (size_listB s).symm
  obtain ⟨l, hl⟩ : ∃ l, l = s.data.toList := ⟨_, rfl⟩
  obtain ⟨cap, C, fr, hcv, hown⟩ := run_tobytes (P := Try.prog) 9 54 5 s Try.underlying9 Try.underlying54 Try.underlying5 (by have := HS.out; omega) SB w1 (by omega)
  rw [← hl] at hrl hown
  rw [hrl] at hcv hown
  have HSZ := Box.mk hrl; have HLL : Box (l.length ≤ 900000) := ⟨by have := HS.out; omega⟩
  have HOWN := Box.mk hown; have HR : Box (R = k256.sum l) := ⟨by rw [HR.out, hl]⟩
  have hB0 : ∀ D, Below SB w1 ((w1.alloc (.cells C 5 fr)).alloc D).drew := fun D => (((Below.refl _ _).alloc (by omega) _).alloc (by simp; omega) _).drew
  have hsz0 : ∀ D, SB ≤ ((w1.alloc (.cells C 5 fr)).alloc D).drew.heap.size := fun D => by simp; omega
  have hc0 : ∀ (A : Obj) (y : Value), ((w1.alloc A).alloc (.cells #[y] 5)).drew.cell? ⟨w1.heap.size + 1, 0, none⟩ = some y := fun A y => by
    have := heap_alloc_new (w1.alloc A) (.cells #[y] 5)
    rw [World.size_alloc] at this
    exact (cell_of_row (w1.alloc A |>.alloc _) _ 0 _ _ _ this)
  have HB0 := Box.mk hB0; have HSZ0 := Box.mk hsz0; have HC0 := Box.mk hc0; have HSB := Box.mk hSB
  have hl5 : l.length + 1 ≤ 1000000000 := by have := HLL.out; omega
  clear hB0 hsz0 hc0 hown hrl hl hSB HS
  go_wp2_with (at_builtin; refine wpList_app1 (w0 := w1) rfl (.tmp 28) (.tmp 29) 54 rfl SB 5 (.int .u8 0) 1 Try.underlying54 (by kernel_rfl) rfl (.slice (some ⟨w1.heap.size, 0, none⟩) l.length cap) l.length (l.map byv) rfl (HOWN.out.alloc _).drew (HB0.out _) (HSZ0.out _) (w1.heap.size + 1) (.int .u8 128) rfl (HC0.out _ _) rfl hl5 (by omega) ?_)
  intro v1 w2 hown1 hbel1 hsz1 _ hnn1
  have HO1 := Box.mk hown1; have HB1 := Box.mk hbel1; have HNN1 := Box.mk hnn1; have HSZ1 := Box.mk hsz1
  clear hown1 hbel1 hnn1 hsz1 HOWN hcv HC0 HB0 HSZ0 hl5
  obtain ⟨g1, cap1, rfl, _⟩ := HO1.out.cells HNN1.out
  clear HNN1
  obtain ⟨hz1, hz2⟩ := zeros32 l.length
  obtain ⟨Z, hZ⟩ : ∃ Z, Z = zeros 64 l.length := ⟨_, rfl⟩
  rw [← hZ] at hz1 hz2
  have HZ := Box.mk hZ; have HZ1 := Box.mk hz1; have HZ2 := Box.mk hz2; have HZB : Box (Z < 64) := ⟨by rw [hZ]; exact Nat.mod_lt _ (by omega)⟩
  clear hZ hz1 hz2
  go_wp2_with fail
  go_loopw [7] (fun b wr => ∃ m g cap : Nat, m ≤ Z ∧ b = .slice (some ⟨g, 0, none⟩) (l.length + 1 + m) cap ∧ Own wr SB 5 b (l.length + 1 + m) ((padS32 l m 0).map byv) ∧ Below SB w1 wr ∧ SB ≤ wr.heap.size) (fun b _ => match b with | .slice _ n _ => l.length + 1000 - n | _ => 0)
  case atStart => exact ⟨0, g1, cap1, by omega, rfl, by have := HO1.out; simpa [padS32, byv] using this, HB1.out, HSZ1.out⟩
  case round =>
    clear HO1 HB1 HSZ1
    obtain ⟨m, g, cap, hm, rfl, hown, hbel, hsz⟩ := hrel
    have HO := Box.mk hown; have HB := Box.mk hbel; have HSZ2 := Box.mk hsz
    have r6 : wr.heap[b6]? = some (.cells (kc ⟨32, sh256, .slice (some ⟨gK, 0, none⟩) 64 cK, .slice (some ⟨gH, 0, none⟩) 8 cH⟩) 109 (0, 0)) := (hbel.block b6 (by rw [HSB.out]; exact (Array.getElem?_eq_some_iff.1 R6.out).1)).trans R6.out
    have cW : wr.cell? ⟨b6, 0, none⟩ = some (.int .i64 32) := cell_of_row _ _ _ _ _ _ r6
    clear hown hbel hsz r6
    obtain ⟨N, hN⟩ : ∃ N, N = l.length + 1 + m := ⟨_, rfl⟩
    rw [← hN] at HO ⊢
    have hNl : N ≤ 1000000 := by have := HLL.out; have := HZB.out; omega
    obtain ⟨N8, hN8⟩ : ∃ N8, N8 = N + 8 := ⟨_, rfl⟩
    obtain ⟨q, hq⟩ : ∃ q, q = N8 % 64 := ⟨_, rfl⟩
    have m1 : (32 : Int).tdiv 4 = 8 := by decide
    have m2 : IntKind.i64.wrap 8 = 8 := by decide
    have m3 : IntKind.i64.wrap ((N : Int) + 8) = (N8 : Int) := by rw [IntKind.wrap_i64]; omega
    have m4 : IntKind.i64.wrap (2 * 32) = 64 := by decide
    have m5 : (N8 : Int).tmod 64 = (q : Int) := by rw [Int.tmod_eq_emod_of_nonneg (by omega)]; omega
    have m6 : IntKind.i64.wrap (q : Int) = (q : Int) := by rw [IntKind.wrap_i64]; omega
    by_cases hlt : m < Z
    · have hne : q ≠ 0 := by
        have := HZ2.out m hlt
        rw [hq, hN8, hN]; exact this
      have hneB : ((q : Int) != 0) = true := by rw [bne_iff_ne]; omega
      have HN := Box.mk hN
      clear hne hq hN8 hN
      go_wp2_with (at_builtin; refine wpList_app1 (w0 := w1) rfl (.tmp 42) (.tmp 43) 54 rfl SB 5 (.int .u8 0) 1 Try.underlying54 (by kernel_rfl) rfl (.slice (some ⟨g, 0, none⟩) N cap) N ((padS32 l m 0).map byv) rfl (HO.out.alloc _) (HB.out.alloc HSZ2.out _) (by have := HSZ2.out; simp; omega) wr.heap.size (.int .u8 0) rfl (cell_new _ _ _) rfl (by omega) (by omega) ?_)
      intro v2 w3 hown2 hbel2 hsz2 _ hnn2
      obtain ⟨g2, cap2, rfl, _⟩ := hown2.cells hnn2
      have HO3 := Box.mk hown2; have HB3 := Box.mk hbel2; have HSZ3 := Box.mk hsz2
      clear hown2 hbel2 hnn2 hsz2 HO HB
      go_wp2
      refine ⟨⟨m + 1, g2, cap2, by omega, ?_, ?_, HB3.out, HSZ3.out⟩, ?_⟩
      · rw [show l.length + 1 + (m + 1) = N + 1 by have := HN.out; omega]
      · have := HO3.out
        rw [show l.length + 1 + (m + 1) = N + 1 by have := HN.out; omega, padS32_zero, List.map_append]
        exact this
      · have := HN.out
        have := HZB.out
        show l.length + 1000 - (N + 1) < l.length + 1000 - N
        omega
    · obtain rfl : Z = m := by omega
      have hq0 : q = 0 := by have := HZ1.out; omega
      have hneB : ((q : Int) != 0) = false := by rw [hq0]; rfl
      have HN := Box.mk hN
      clear hq hN8 hN hq0 hlt hm
      have m7 : IntKind.i64.wrap (8 - 1) = 7 := by decide
      go_wp2_with fail
      clear m1 m2 m3 m4 m5 m6 m7 hneB cW
      go_loopw [7, 8] (fun b i wr => ∃ j g cap : Nat, j ≤ 8 ∧ i = .int .i64 (7 - (j : Int)) ∧ b = .slice (some ⟨g, 0, none⟩) (N + j) cap ∧ Own wr SB 5 b (N + j) ((padS32 l Z j).map byv) ∧ Below SB w1 wr ∧ SB ≤ wr.heap.size) (fun _ i _ => (intOf i + 1).toNat)
      case atStart => exact ⟨0, g, cap, by omega, rfl, rfl, HO.out, HB.out, HSZ2.out⟩
      case round =>
        clear HO HB HSZ2
        obtain ⟨j, g, cap, hj, rfl, rfl, hown, hbel, hsz⟩ := hrel
        have HO := Box.mk hown; have HB := Box.mk hbel; have HSZ2 := Box.mk hsz
        clear hown hbel hsz
        by_cases hlt : j < 8
        · obtain ⟨c, hc⟩ : ∃ c : Nat, c = 7 - j := ⟨_, rfl⟩
          have hcI : (7 : Int) - (j : Int) = (c : Int) := by omega
          rw [hcI]
          have HC := Box.mk hc
          have HST := Box.mk (padS32_step l Z j hlt)
          obtain ⟨M, hM⟩ : ∃ M, M = N + j := ⟨_, rfl⟩
          have hM5 : M + 1 ≤ 1000000000 := by omega
          rw [← hM] at HO ⊢
          have HM := Box.mk hM
          obtain ⟨L8, hL8⟩ : ∃ L8, L8 = 8 * l.length := ⟨_, rfl⟩
          have hLI : (s.size : Int) = (l.length : Int) := by rw [HSZ.out]
          have hL1 : IntKind.u64.wrap (l.length : Int) = (l.length : Int) := by rw [IntKind.wrap_u64]; have := HLL.out; omega
          have hL2 : IntKind.u64.wrap ((l.length : Int) * 8) = (L8 : Int) := by rw [IntKind.wrap_u64]; have := HLL.out; omega
          have HY := Box.mk (show Value.int .u8 ((L8 : Int) / 2 ^ (8 * c) % 256) = byv (UInt8.ofNat (8 * l.length / 256 ^ (8 - 1 - j))) from by
            rw [shift_byte L8 (8 * c) (8 - 1 - j) (by omega), hL8])
          have HL8 := Box.mk hL8
          have HLB : Box (L8 ≤ 7200000) := ⟨by have := HLL.out; omega⟩
          clear hcI hL8 hM hc
          have hc8 : c < 8 := by have := HC.out; omega
          · have hcI : (c : Int) < 8 := by omega
            obtain ⟨t, ht⟩ : ∃ t, t = 8 * c := ⟨_, rfl⟩
            have htw : IntKind.i64.wrap (8 * (c : Int)) = (t : Int) := by rw [IntKind.wrap_i64]; omega
            have htm : min t 64 = t := by omega
            rw [← ht] at HY
            obtain ⟨y, hy⟩ : ∃ y, y = L8 / 2 ^ t := ⟨_, rfl⟩
            have htI : (L8 : Int) / 2 ^ min t 64 = (y : Int) := by rw [htm, hy]; simp
            have HY2 : Box (Value.int .u8 ((y : Int) % 256) = byv (UInt8.ofNat (8 * l.length / 256 ^ (8 - 1 - j)))) := ⟨by rw [← HY.out, hy]; simp⟩
            clear ht htm HY hc8 hy
            go_wp2_with (at_builtin; refine wpList_app1 (w0 := w1) rfl (.tmp 62) (.tmp 65) 54 rfl SB 5 (.int .u8 0) 1 Try.underlying54 (by kernel_rfl) rfl (.slice (some ⟨g, 0, none⟩) M cap) M ((padS32 l Z j).map byv) rfl (HO.out.alloc _) (HB.out.alloc HSZ2.out _) (by have := HSZ2.out; simp; omega) wr.heap.size (.int .u8 ((y : Int) % 256)) rfl (cell_new _ _ _) rfl hM5 (by omega) ?_)
            intro v2 w3 hown2 hbel2 hsz2 _ hnn2
            obtain ⟨g2, cap2, rfl, _⟩ := hown2.cells hnn2
            have HO3 := Box.mk hown2; have HB3 := Box.mk hbel2; have HSZ3 := Box.mk hsz2
            clear hown2 hbel2 hnn2 hsz2 HO HB
            go_wp2
            refine ⟨⟨j + 1, g2, cap2, by omega, int_congr (by have := HC.out; omega), ?_, ?_, HB3.out, HSZ3.out⟩, by have := HC.out; simp [intOf]⟩
            · rw [show N + (j + 1) = M + 1 by have := HM.out; omega]
            · have := HO3.out
              rw [show N + (j + 1) = M + 1 by have := HM.out; omega, HST.out, List.map_append]
              rw [HY2.out] at this
              exact this
        · obtain rfl : j = 8 := by omega
          have hlen := HO.out.1
          rw [HZ.out, padS32_all] at HO hlen
          rw [List.length_map] at hlen
          obtain ⟨Lb, hLb⟩ : ∃ Lb, Lb = l ++ padB 64 l.length := ⟨_, rfl⟩
          rw [← hLb] at HO hlen
          have HLb := Box.mk hLb
          obtain ⟨C, hC⟩ : ∃ C, N + 8 = 64 * C := ⟨(N + 8) / 64, by have := HN.out; have := HZ1.out; omega⟩
          have hC5 : 64 * C ≤ 1000000 := by rw [← hC]; omega
          rw [hC] at HO hlen ⊢
          obtain ⟨w3, rfl⟩ : ∃ w3 : World, w3 = wr := ⟨_, rfl⟩
          have HK3 := Box.mk (HK.out.below (HB.out.mono (by rw [HSB.out]; exact Nat.le_refl _)))
          have R63 := Box.mk ((HB.out.block b6 (by rw [HSB.out]; exact (Array.getElem?_eq_some_iff.1 R6.out).1)).trans R6.out)
          have OB := Box.mk HO.out
          have B3 := Box.mk (B1.out.trans (HB.out.mono (by rw [HSB.out]; exact B1.out.size)))
          have HLEN := Box.mk hlen
          have HRR : Box (R = (run 64 k256.step C k256.h Lb).1.list.flatMap fun x => bytesOf x 4) := ⟨by
            rw [HR.out]
            show ((blks 64 k256.step k256.h (l ++ padB 64 l.length)).1.list.flatMap fun x => bytesOf x 4) = _
            unfold blks
            rw [← HLb.out, HLEN.out, Nat.mul_div_cancel_left _ (by decide)]⟩
          clear hlt hj HN hC hlen hLb HLb HO HB HSZ2 HZ HZ1 HZ2 HZB HR HK R6 B1 HSB hNl HLL HSZ
          have cH : w3.cell? ⟨b6, 14, none⟩ = some (.slice (some ⟨gH, 0, none⟩) 8 cH) := cell_of_row _ _ _ _ _ _ R63.out
          have SUM0 : Box (∀ q, q < 8 → w3.cell? ⟨gH, q, none⟩ = some (.int .u64 ((run 64 k256.step 0 k256.h Lb).1.list.getD q 0 : Nat))) := ⟨fun q hq => by rw [HK3.out.cH q hq, H32_eq]; rfl⟩
          have LH0 : Box (gH < w3.heap.size) := ⟨HK3.out.lH⟩
          have OK0 : Box ((run 64 k256.step 0 k256.h Lb).1.Ok 32) := ⟨h32_ok⟩
          obtain ⟨gb, capb, hge, _, hbc, hbl, _⟩ := OB.out.cells (by simp)
          injection hge with h1 h2 h3
          injection h1 with h1
          injection h1 with h1
          subst h1
          have HBC : Box (∀ q, q < 64 * C → w3.cell? ⟨g, q, none⟩ = some (.int .u8 ((Lb.getD q 0).toNat : Nat))) := ⟨fun q hq => hbc q _ (byv_at _ _ (by have := HLEN.out; omega))⟩
          have HBL := Box.mk hbl
          clear hbc hbl h2 h3 OB
          go_wp2_with fail
          clear cH
          go_loopw [10, 11] (fun u i wr => ∃ c gs cs : Nat, c ≤ C ∧ i = .int .i64 (64 * (c : Int)) ∧ u = .slice (some ⟨gs, 0, none⟩) 8 cs ∧ gs < wr.heap.size ∧ (∀ q, q < 8 → wr.cell? ⟨gs, q, none⟩ = some (.int .u64 ((run 64 k256.step c k256.h Lb).1.list.getD q 0 : Nat))) ∧ (run 64 k256.step c k256.h Lb).1.Ok 32 ∧ Below w3.heap.size w3 wr) (fun _ i _ => 64 * C - (intOf i).toNat)
          case atStart => exact ⟨0, gH, _, by omega, rfl, rfl, LH0.out, SUM0.out, OK0.out, Below.refl _ _⟩
          case round =>
            clear SUM0 LH0 OK0
            obtain ⟨wo, rfl⟩ : ∃ wo : World, wo = wr := ⟨_, rfl⟩
            obtain ⟨c, gs, cs, hc, rfl, rfl, hgl, hsum, hok, hbel⟩ := hrel
            have HGL := Box.mk hgl; have HSUM := Box.mk hsum; have HOK := Box.mk hok; have HB := Box.mk hbel
            clear hgl hsum hok hbel
            have HKo := Box.mk (HK3.out.below HB.out)
            have R6o := Box.mk ((Gr.of HB.out).block R63.out)
            by_cases hlt : c < C
            · have hltI : 64 * (c : Int) < 64 * (C : Int) := by omega
              obtain ⟨SD, hSD⟩ : ∃ SD, SD = wo.heap.size := ⟨_, rfl⟩
              have o0 : Box (Own (wo.alloc (.cells #[] 92)) SD 92 (.slice (some ⟨wo.heap.size, 0, none⟩) 0 0) 0 ((wordsOf 4 0 (Lb.drop (64 * c))).map u64v)) := ⟨Own.made wo 92 #[] 0 SD (by omega) (by unfold maxLen; omega) rfl⟩
              have b0 : Box (Below SD wo (wo.alloc (.cells #[] 92))) := ⟨(Below.refl _ _).alloc (by omega) _⟩
              have s0 : Box (SD ≤ (wo.alloc (.cells #[] 92)).heap.size) := ⟨by simp; omega⟩
              have HSD := Box.mk hSD
              clear hSD
              go_wp2_with fail
              go_loopw [12, 13] (fun v i wr => ∃ t : Nat, t ≤ 16 ∧ i = .int .i64 t ∧ Own wr SD 92 v t ((wordsOf 4 t (Lb.drop (64 * c))).map u64v) ∧ v ≠ .slice none 0 0 ∧ Below SD wo wr ∧ SD ≤ wr.heap.size) (fun _ i _ => 16 - (intOf i).toNat)
              case atStart => exact ⟨0, by omega, rfl, o0.out, by simp, b0.out, s0.out⟩
              case round =>
                clear o0 b0 s0
                obtain ⟨wx, rfl⟩ : ∃ wx : World, wx = wr := ⟨_, rfl⟩
                obtain ⟨t, ht, rfl, hown, hne, hbel, hsz⟩ := hrel
                have OW := Box.mk hown; have NE := Box.mk hne; have HBx := Box.mk hbel; have HSx := Box.mk hsz
                clear hown hne hbel hsz
                have R6x := Box.mk ((HBx.out.block b6 (by rw [HSD.out]; exact (Array.getElem?_eq_some_iff.1 R6o.out).1)).trans R6o.out)
                by_cases htl : t < 16
                · obtain ⟨gw, cw, hve, _⟩ := OW.out.cells NE.out
                  subst hve
                  have htI : (t : Int) < 16 := by omega
                  have cW : wx.cell? ⟨b6, 0, none⟩ = some (.int .i64 32) := cell_of_row _ _ _ _ _ _ R6x.out
                  have HBx3 : Box (Below w3.heap.size w3 wx) := ⟨HB.out.trans (HBx.out.mono (by rw [HSD.out]; exact HB.out.size))⟩
                  obtain ⟨q, hq⟩ : ∃ q, q = 64 * c + 4 * t := ⟨_, rfl⟩
                  have HQL : Box (q + 4 ≤ 64 * C) := ⟨by omega⟩
                  have hqI : 64 * (c : Int) + 4 * (t : Int) = (q : Int) := by omega
                  have m1 : (32 : Int).tdiv 8 = 4 := by decide
                  have m2 : IntKind.i64.wrap 4 = 4 := by decide
                  have m3 : IntKind.i64.wrap ((t : Int) * 32) = (t : Int) * 32 := by rw [IntKind.wrap_i64]; omega
                  have m4 : ((t : Int) * 32).tdiv 8 = 4 * (t : Int) := by rw [Int.tdiv_eq_ediv_of_nonneg (by omega)]; omega
                  have m5 : IntKind.i64.wrap (4 * (t : Int)) = 4 * (t : Int) := by rw [IntKind.wrap_i64]; omega
                  have m6 : IntKind.i64.wrap (64 * (c : Int) + 4 * (t : Int)) = (q : Int) := by rw [IntKind.wrap_i64]; omega
                  have HWS := Box.mk (wordsOf_snoc 4 t (Lb.drop (64 * c)))
                  rw [List.drop_drop, ← hq] at HWS
                  clear hq
                  go_wp2_with fail
                  go_loop [14, 15] (fun x i => ∃ j : Nat, j ≤ 4 ∧ i = .int .i64 j ∧ x = .int .u64 (be ((Lb.drop q).take j) : Nat)) (fun _ i => 4 - (intOf i).toNat)
                  case atStart => exact ⟨0, by omega, rfl, by simp [be]⟩
                  case round =>
                    obtain ⟨j, hj, rfl, rfl⟩ := hrel
                    by_cases hjl : j < 4
                    · have hjI : (j : Int) < 4 := by omega
                      obtain ⟨p, hp⟩ : ∃ p, p = q + j := ⟨_, rfl⟩
                      have hst := be_stepL Lb q j (by have := HLEN.out; have := HQL.out; omega)
                      rw [← hp] at hst
                      have hbl : be ((Lb.drop q).take j) * 256 < 18446744073709551616 := by
                        have h1 := be_lt ((Lb.drop q).take j)
                        have h2 : ((Lb.drop q).take j).length ≤ 7 := by rw [List.length_take]; omega
                        have h3 : 256 ^ ((Lb.drop q).take j).length ≤ 256 ^ 7 := Nat.pow_le_pow_right (by omega) h2
                        omega
                      have hpB : p < 64 * C := by have := HQL.out; omega
                      have hpI : (p : Int) < 64 * (C : Int) := by omega
                      have hcc : wx.cell? ⟨g, p, none⟩ = some (.int .u8 ((Lb.getD p 0).toNat : Nat)) := (HBx3.out.cell (p := ⟨g, p, none⟩) HBL.out).trans (HBC.out p hpB)
                      have hb256 := (Lb.getD p 0).toNat_lt
                      generalize (Lb.getD p 0).toNat = b at hst hcc hb256
                      generalize be ((Lb.drop q).take j) = x at hst hbl
                      obtain ⟨y, hy⟩ : ∃ y, y = x * 256 := ⟨_, rfl⟩
                      have hw1 : IntKind.u64.wrap ((x : Int) * 256) = (y : Int) := by rw [IntKind.wrap_u64]; omega
                      have hw2 : IntKind.u64.wrap (b : Int) = (b : Int) := by rw [IntKind.wrap_u64]; omega
                      obtain ⟨z, hz⟩ : ∃ z, z = y + b := ⟨_, rfl⟩
                      have hw3 : IntKind.u64.wrap ((y : Int) + (b : Int)) = (z : Int) := by rw [IntKind.wrap_u64]; omega
                      have m7 : IntKind.i64.wrap ((q : Int) + (j : Int)) = (p : Int) := by rw [IntKind.wrap_i64]; omega
                      have HST : Box (be ((Lb.drop q).take (j + 1)) = z) := ⟨by rw [hst, hz, hy]; omega⟩
                      clear hst hbl hb256 hy hz hp hpB
                      go_wp2_with fail
                      exact ⟨⟨j + 1, by omega, by go_num, by rw [HST.out]⟩, by simp [intOf]; omega⟩
                    · obtain rfl : j = 4 := by omega
                      generalize be ((Lb.drop q).take 4) = x at HWS
                      go_wp2_with (at_builtin; refine wpList_app1 (w0 := wo) rfl (.tmp 106) (.tmp 108) 107 rfl SD 92 (.int .u64 0) 8 Try.underlying107 (by kernel_rfl) rfl (.slice (some ⟨gw, 0, none⟩) t cw) t ((wordsOf 4 t (Lb.drop (64 * c))).map u64v) rfl (OW.out.alloc _) (HBx.out.alloc HSx.out _) (by have := HSx.out; simp; omega) wx.heap.size (.int .u64 (x : Nat)) rfl (cell_new _ _ _) rfl (by omega) (by omega) ?_)
                      intro v2 w4 hown2 hbel2 hsz2 _ hnn2
                      have HO3 := Box.mk hown2; have HB4 := Box.mk hbel2; have HSZ3 := Box.mk hsz2; have NN := Box.mk hnn2
                      clear hown2 hbel2 hnn2 hsz2
                      go_wp2_with fail
                      exact ⟨⟨t + 1, by omega, by go_num, by rw [HWS.out, List.map_append]; exact HO3.out, NN.out, HB4.out, HSZ3.out⟩, by simp [intOf]; omega⟩
                · obtain rfl : t = 16 := by omega
                  have HSTEP : Box ((run 64 k256.step (c + 1) k256.h Lb).1 = blk 32 sh256 K32 (run 64 k256.step c k256.h Lb).1 (wordsOf 4 16 (Lb.drop (64 * c)))) := ⟨by rw [run_succ, step32_eq]⟩
                  have hblk := block_any ⟨32, sh256, .slice (some ⟨gK, 0, none⟩) 64 cK, .slice (some ⟨gH, 0, none⟩) 8 cH⟩ (.inl rfl) sh256_ok K32 K32_lt 64 K32_len (by omega) (by omega) gK cK rfl (run 64 k256.step c k256.h Lb).1 HOK.out gs cs (wordsOf 4 16 (Lb.drop (64 * c))) (wordsOf_len _ _ _) (fun x hx => wordsOf_lt 4 16 _ x hx) _ SD wx HSx.out
                    (by rw [HSD.out]; exact HKo.out.lK) (by rw [HSD.out]; exact HGL.out) (fun j hj => (HBx.out.cell (p := ⟨gK, j, none⟩) (by rw [HSD.out]; exact HKo.out.lK)).trans (HKo.out.cK j hj)) (fun j hj => (HBx.out.cell (p := ⟨gs, j, none⟩) (by rw [HSD.out]; exact HGL.out)).trans (HSUM.out j hj)) OW.out NE.out
                  have HBLK := Box.mk hblk
                  clear hblk htl
                  go_wp2_with ((with_reducible refine wpList_loadK rfl (.tmp 6) rfl b6 ⟨32, sh256, .slice (some ⟨gK, 0, none⟩) 64 cK, .slice (some ⟨gH, 0, none⟩) 8 cH⟩ R6x.out ?_ ?_); rfl)
                  refine HBLK.out.mono ?_
                  rintro e w5 ⟨g', rfl, _, hg', hcells, hb5⟩
                  have G5 := Box.mk hg'; have C5 := Box.mk hcells
                  have B5 : Box (Below w3.heap.size w3 w5) := ⟨HB.out.trans ((HBx.out.trans hb5).mono (by rw [HSD.out]; exact HB.out.size))⟩
                  clear hg' hcells hb5 HBLK
                  have hwB : IntKind.i64.wrap (2 * 32) = 64 := by decide
                  have hwi : IntKind.i64.wrap (64 * (c : Int) + 64) = 64 * (c : Int) + 64 := by rw [IntKind.wrap_i64]; omega
                  have cW : w5.cell? ⟨b6, 0, none⟩ = some (.int .i64 32) := cell_of_row _ _ _ _ _ _ ((Gr.of B5.out).block R63.out)
                  go_wp2_with fail
                  refine ⟨⟨c + 1, g', 8, by omega, int_congr (by omega), rfl, G5.out, by rw [HSTEP.out]; exact C5.out, by rw [HSTEP.out]; exact plus_ok _ _ _, B5.out⟩, by simp [intOf]; omega⟩
            · obtain rfl : c = C := by omega
              obtain ⟨Lq, hLq⟩ : ∃ L, L = (run 64 k256.step c k256.h Lb).1.list := ⟨_, rfl⟩
              have hLl : Lq.length = 8 := by rw [hLq]; rfl
              rw [← hLq] at HSUM HRR
              have HLl := Box.mk hLl
              have cW : wo.cell? ⟨b6, 0, none⟩ = some (.int .i64 32) := cell_of_row _ _ _ _ _ _ R6o.out
              obtain ⟨SE, hSE⟩ : ∃ SD, SD = wo.heap.size := ⟨_, rfl⟩
              have o0 : Box (Own (wo.alloc (.cells #[] 5)) SE 5 (.slice (some ⟨wo.heap.size, 0, none⟩) 0 0) (4 * 0) (((Lq.take 0).flatMap fun x => bytesOf x 4).map byv)) := ⟨by simpa using Own.made wo 5 #[] 0 SE (by omega) (by unfold maxLen; omega) rfl⟩
              have b0 : Box (Below SE wo (wo.alloc (.cells #[] 5))) := ⟨(Below.refl _ _).alloc (by omega) _⟩
              have s0 : Box (SE ≤ (wo.alloc (.cells #[] 5)).heap.size) := ⟨by simp; omega⟩
              have HSE := Box.mk hSE
              clear hSE hLl hLq hlt hc HOK
              go_wp2_with fail
              go_loopw [16, 17] (fun b i wr => ∃ n : Nat, n ≤ 8 ∧ i = .int .i64 n ∧ Own wr SE 5 b (4 * n) (((Lq.take n).flatMap fun x => bytesOf x 4).map byv) ∧ b ≠ .slice none 0 0 ∧ Below SE wo wr ∧ SE ≤ wr.heap.size) (fun _ i _ => 8 - (intOf i).toNat)
              case atStart => exact ⟨0, by omega, rfl, o0.out, by simp, b0.out, s0.out⟩
              case round =>
                clear o0 b0 s0 cW
                obtain ⟨n, hn, rfl, hown, hnn, hbel, hsz⟩ := hrel
                by_cases hlt : n < 8
                · have hnI : (n : Int) < 8 := by omega
                  have HSN := Box.mk (take_snoc' Lq n (by have := HLl.out; omega))
                  have HXC := Box.mk (HSUM.out n hlt)
                  generalize Lq.getD n 0 = x at HSN HXC
                  have HB2 := Box.mk hbel; have HOWN := Box.mk hown; have HNN := Box.mk hnn; have HSZ2 := Box.mk hsz
                  have cW : wr.cell? ⟨b6, 0, none⟩ = some (.int .i64 32) := cell_of_row _ _ _ _ _ _ ((hbel.block b6 (by rw [HSE.out]; exact (Array.getElem?_eq_some_iff.1 R6o.out).1)).trans R6o.out)
                  have m1 : IntKind.i64.wrap (32 - 8) = 24 := by decide
                  clear hbel hown hnn hsz
                  go_wp2_with fail
                  clear cW m1
                  go_loopw [16, 18] (fun b k wr => ∃ j : Nat, j ≤ 4 ∧ k = .int .i64 (24 - 8 * (j : Int)) ∧ Own wr SE 5 b (4 * n + j) ((((Lq.take n).flatMap fun x => bytesOf x 4) ++ (bytesOf x 4).take j).map byv) ∧ b ≠ .slice none 0 0 ∧ Below SE wo wr ∧ SE ≤ wr.heap.size) (fun _ k _ => (intOf k + 8).toNat)
                  case atStart => exact ⟨0, by omega, rfl, by simpa using HOWN.out, HNN.out, HB2.out, HSZ2.out⟩
                  case round =>
                    clear HOWN HB2 HNN HSZ2
                    obtain ⟨j, hj, rfl, hown, hnn, hbel, hsz⟩ := hrel
                    by_cases hjl : j < 4
                    · obtain ⟨gw, cw, rfl, _⟩ := hown.cells hnn
                      obtain ⟨c2, hc2⟩ : ∃ c2 : Nat, c2 = 24 - 8 * j := ⟨_, rfl⟩
                      have hcI : 24 - 8 * (j : Int) = (c2 : Int) := by omega
                      rw [hcI]
                      have hc0 : (0 : Int) ≤ (c2 : Int) := by omega
                      have hcU : (c2 : Int) < 64 := by omega
                      have HC2 := Box.mk hc2
                      have HY := Box.mk (shift_byte x c2 (4 - 1 - j) (by omega))
                      have HST := Box.mk (bytesOf_step x 4 j hjl)
                      have htm : min c2 64 = c2 := by omega
                      obtain ⟨y, hy⟩ : ∃ y, y = x / 2 ^ c2 := ⟨_, rfl⟩
                      have htI : (x : Int) / 2 ^ min c2 64 = (y : Int) := by rw [htm, hy]; simp
                      have htI2 : (x : Int) / 2 ^ c2 = (y : Int) := by rw [hy]; simp
                      have HY2 : Box (Value.int .u8 ((y : Int) % 256) = byv (UInt8.ofNat (x / 256 ^ (4 - 1 - j)))) := ⟨by rw [← HY.out, hy]; simp⟩
                      have hxc : wr.cell? ⟨gs, n, none⟩ = some (.int .u64 (x : Nat)) := (hbel.cell (p := ⟨gs, n, none⟩) (by rw [HSE.out]; exact HGL.out)).trans HXC.out
                      have HOWN := Box.mk hown; have HB2 := Box.mk hbel; have HSZ2 := Box.mk hsz
                      obtain ⟨M, hM⟩ : ∃ M, M = 4 * n + j := ⟨_, rfl⟩
                      rw [← hM] at HOWN ⊢
                      have hM5 : M + 1 ≤ 1000000000 := by omega
                      have HM := Box.mk hM
                      have hcw1 : IntKind.i64.wrap ((c2 : Int) - 8) = (c2 : Int) - 8 := by rw [IntKind.wrap_i64]; omega
                      clear hown hnn hbel hsz hy htm HY hM hc2 hcI
                      go_wp2_with (at_builtin; refine wpList_app1 (w0 := wo) rfl (.tmp 126) (.tmp 134) 54 rfl SE 5 (.int .u8 0) 1 Try.underlying54 (by kernel_rfl) rfl (.slice (some ⟨gw, 0, none⟩) M cw) M ((((Lq.take n).flatMap fun x => bytesOf x 4) ++ (bytesOf x 4).take j).map byv) rfl (HOWN.out.alloc _) (HB2.out.alloc HSZ2.out _) (by have := HSZ2.out; simp; omega) wr.heap.size (.int .u8 ((y : Int) % 256)) rfl (cell_new _ _ _) rfl hM5 (by omega) ?_)
                      intro v2 w4 hown2 hbel2 hsz2 _ hnn2
                      have HO3 := Box.mk hown2; have HB4 := Box.mk hbel2; have HSZ3 := Box.mk hsz2; have NN := Box.mk hnn2
                      clear hown2 hbel2 hnn2 hsz2
                      go_wp2_with fail
                      refine ⟨⟨j + 1, by omega, int_congr (by have := HC2.out; omega), ?_, NN.out, HB4.out, HSZ3.out⟩, by have := HC2.out; simp [intOf]; omega⟩
                      have := HO3.out
                      rw [HY2.out] at this
                      rw [show 4 * n + (j + 1) = M + 1 by have := HM.out; omega, HST.out]
                      simpa [List.map_append, List.map_take] using this
                    · obtain rfl : j = 4 := by omega
                      rw [(List.take_of_length_le (by rw [bytesOf_len]; exact Nat.le_refl _) : (bytesOf x 4).take 4 = bytesOf x 4)] at hown
                      have HOWN := Box.mk hown; have HB2 := Box.mk hbel; have HNN := Box.mk hnn; have HSZ2 := Box.mk hsz
                      clear hown hbel hnn hsz
                      go_wp2_with fail
                      exact ⟨⟨n + 1, by omega, by go_num, by rw [HSN.out, List.flatMap_append, Nat.mul_add, Nat.mul_one]; simpa using HOWN.out, HNN.out, HB2.out, HSZ2.out⟩, by simp [intOf]; omega⟩
                · obtain rfl : n = 8 := by omega
                  rw [List.take_of_length_le (by have := HLl.out; omega), ← HRR.out] at hown
                  have hcv := run_str_Own (P := Try.prog) (dst := 9) hown hnn Try.underlying54 Try.underlying5 Try.underlying9
                  have HBF : Box (Below w.heap.size w wr) := ⟨(B3.out.trans (HB.out.mono B3.out.size)).trans (hbel.mono (by rw [HSE.out]; exact Nat.le_trans B3.out.size HB.out.size))⟩
                  clear hown hnn hbel hsz hlt hn
                  go_wp2_with fail
                  go_ret2
                  exact ⟨rfl, HBF.out⟩
end Go.Proofs.Ytopiopomioglfaa.Big
namespace Go.Proofs.Ytopiopomioglfaa.Big
set_option maxRecDepth 100000
set_option linter.unusedVariables false
open Go Go.RowKit
open Sha
/-- The bytes, a mark, zeros, the first bytes of the length. -/
def padS64 (l : List UInt8) (m j : Nat) : List UInt8 := l ++ (128 : UInt8) :: (List.replicate m 0 ++ (bytesOf (8 * l.length) 16).take j)
theorem padS64_zero (l : List UInt8) (m : Nat) : padS64 l (m + 1) 0 = padS64 l m 0 ++ [0] := by simp [padS64, List.replicate_succ']
theorem padS64_step (l : List UInt8) (m j : Nat) (h : j < 16) : padS64 l m (j + 1) = padS64 l m j ++ [UInt8.ofNat (8 * l.length / 256 ^ (16 - 1 - j))] := by
  simp [padS64, bytesOf_step _ _ _ h]
theorem padS64_all (l : List UInt8) : padS64 l (zeros 128 l.length) 16 = l ++ padB 128 l.length := by
  unfold padS64 padB
  rw [List.take_of_length_le (by rw [bytesOf_len]; exact Nat.le_refl _)]
theorem padS64_len (l : List UInt8) (m j : Nat) (h : j ≤ 16) : (padS64 l m j).length = l.length + 1 + m + j := by
  simp [padS64, bytesOf_len]; omega
theorem zeros64 (n : Nat) : (n + 1 + zeros 128 n + 16) % 128 = 0 ∧ ∀ j, j < zeros 128 n → (n + 1 + j + 16) % 128 ≠ 0 := by
  unfold zeros
  exact ⟨by omega, fun j hj => by omega⟩

set_option maxRecDepth 100000 in
set_option maxHeartbeats 8000000 in
theorem one64_any (s : ByteArray) (hs : s.size ≤ 900000) (w : World) :
    Calls Try.prog 40 #[.int .i64 1, .string s] w fun e w' => e = .returned (.tuple #[.string ⟨(k512.sum s.data.toList).toArray⟩, .int .i64 0]) ∧ Below w.heap.size w w' := by
  obtain ⟨R, hR⟩ : ∃ R, R = k512.sum s.data.toList := ⟨_, rfl⟩
  rw [← hR]
  have HR := Box.mk hR; have HS := Box.mk hs
  clear hR hs
  go_enter Try.func40, Try.ntmps40
  go_upto_region 3 with (fail)
  refine wp_region_seq 4 [.flo, .cha, .new (.cells (kc kz) 109), .cha] (by rfl) rfl (by decide) ?_
  simp only [List.take, List.zip, List.zipWith]
  try go_frame
  refine gm_move (.tmp 0) (.inl rfl) (.int .i64 1) rfl ?_
  try go_frame
  refine gm_callF [.int .i64 1] (by kernel_rfl) rfl rfl (fun w1 hw1 _ => (of64_any w1).mono ?_)
  rintro e w2 ⟨vK, vH, rfl, oK, oH, nK, nH, hw2⟩
  obtain ⟨gK, cK, rfl, hgK, hcK, hlK, _⟩ := oK.cells nK
  obtain ⟨gH, cH, rfl, hgH, hcH, hlH, _⟩ := oH.cells nH
  have oK' := oK.base hw1.size; have oH' := oH.base hw1.size
  refine ⟨_, rfl, hw2, KH gK gH 80 K64 H64, [gK, gH], KH.stb _ _ _ _ _, ?_, ?_, ?_⟩
  · exact ⟨fun j hj => hcK j _ (map_at _ _ (by rw [K64_len]; exact hj)), fun j hj => hcH j _ (map_at _ _ (by rw [H64_len]; exact hj)), hlK, hlH⟩
  · intro b hb
    simp at hb
    rcases hb with rfl | rfl
    · exact ⟨hgK, hlK⟩
    · exact ⟨hgH, hlH⟩
  clear hcK hcH hlK hlH oK oH oK' oH' nK nH hw1 hw2 hgK hgH
  try go_frame
  refine gm_alloc rfl (.cells (kc kz) 109) (fun _ => by kernel_rfl) (fun b6 hb6 hn6 => ?_)
  try go_frame
  have n1 : b6 ≠ gK := fun h => hn6 (by simp [h])
  have n2 : b6 ≠ gH := fun h => hn6 (by simp [h])
  refine gm_storeN (.tmp 6) (.tmp 26) rfl b6 (kc kz) (kc ⟨64, sh512, .slice (some ⟨gK, 0, none⟩) 80 cK, .slice (some ⟨gH, 0, none⟩) 8 cH⟩) 109 rfl rfl (by simp) rfl kc_info rfl (kc_one _ rfl rfl) (KH gK gH 80 K64 H64) (fun _ h => h) (KH.stb _ _ _ _ _) (fun _ h => h.setRow n1 n2 _) ?_
  try go_frame
  refine gm_nil ?_
  intro w1 hw1 hF1
  simp only [List.drop]
  try go_frame
  have B1 := Box.mk hw1.below; have HK := Box.mk hF1.1; have R6 := Box.mk hF1.2
  clear hw1 hF1 n1 n2 hb6 hn6
  obtain ⟨SB, hSB⟩ : ∃ SB, SB = w1.heap.size := ⟨_, rfl⟩
  have hrl : s.size = s.data.toList.length := (size_listB s).symm
  obtain ⟨l, hl⟩ : ∃ l, l = s.data.toList := ⟨_, rfl⟩
  obtain ⟨cap, C, fr, hcv, hown⟩ := run_tobytes (P := Try.prog) 9 54 5 s Try.underlying9 Try.underlying54 Try.underlying5 (by have := HS.out; omega) SB w1 (by omega)
  rw [← hl] at hrl hown
  rw [hrl] at hcv hown
  have HSZ := Box.mk hrl; have HLL : Box (l.length ≤ 900000) := ⟨by have := HS.out; omega⟩
  have HOWN := Box.mk hown; have HR : Box (R = k512.sum l) := ⟨by rw [HR.out, hl]⟩
  have hB0 : ∀ D, Below SB w1 ((w1.alloc (.cells C 5 fr)).alloc D).drew := fun D => (((Below.refl _ _).alloc (by omega) _).alloc (by simp; omega) _).drew
  have hsz0 : ∀ D, SB ≤ ((w1.alloc (.cells C 5 fr)).alloc D).drew.heap.size := fun D => by simp; omega
  have hc0 : ∀ (A : Obj) (y : Value), ((w1.alloc A).alloc (.cells #[y] 5)).drew.cell? ⟨w1.heap.size + 1, 0, none⟩ = some y := fun A y => by
    have := heap_alloc_new (w1.alloc A) (.cells #[y] 5)
    rw [World.size_alloc] at this
    exact (cell_of_row (w1.alloc A |>.alloc _) _ 0 _ _ _ this)
  have HB0 := Box.mk hB0; have HSZ0 := Box.mk hsz0; have HC0 := Box.mk hc0; have HSB := Box.mk hSB
  have hl5 : l.length + 1 ≤ 1000000000 := by have := HLL.out; omega
  clear hB0 hsz0 hc0 hown hrl hl hSB HS
  go_wp2_with (at_builtin; refine wpList_app1 (w0 := w1) rfl (.tmp 28) (.tmp 29) 54 rfl SB 5 (.int .u8 0) 1 Try.underlying54 (by kernel_rfl) rfl (.slice (some ⟨w1.heap.size, 0, none⟩) l.length cap) l.length (l.map byv) rfl (HOWN.out.alloc _).drew (HB0.out _) (HSZ0.out _) (w1.heap.size + 1) (.int .u8 128) rfl (HC0.out _ _) rfl hl5 (by omega) ?_)
  intro v1 w2 hown1 hbel1 hsz1 _ hnn1
  have HO1 := Box.mk hown1; have HB1 := Box.mk hbel1; have HNN1 := Box.mk hnn1; have HSZ1 := Box.mk hsz1
  clear hown1 hbel1 hnn1 hsz1 HOWN hcv HC0 HB0 HSZ0 hl5
  obtain ⟨g1, cap1, rfl, _⟩ := HO1.out.cells HNN1.out
  clear HNN1
  obtain ⟨hz1, hz2⟩ := zeros64 l.length
  obtain ⟨Z, hZ⟩ : ∃ Z, Z = zeros 128 l.length := ⟨_, rfl⟩
  rw [← hZ] at hz1 hz2
  have HZ := Box.mk hZ; have HZ1 := Box.mk hz1; have HZ2 := Box.mk hz2; have HZB : Box (Z < 128) := ⟨by rw [hZ]; exact Nat.mod_lt _ (by omega)⟩
  clear hZ hz1 hz2
  go_wp2_with fail
  go_loopw [7] (fun b wr => ∃ m g cap : Nat, m ≤ Z ∧ b = .slice (some ⟨g, 0, none⟩) (l.length + 1 + m) cap ∧ Own wr SB 5 b (l.length + 1 + m) ((padS64 l m 0).map byv) ∧ Below SB w1 wr ∧ SB ≤ wr.heap.size) (fun b _ => match b with | .slice _ n _ => l.length + 1000 - n | _ => 0)
  case atStart => exact ⟨0, g1, cap1, by omega, rfl, by have := HO1.out; simpa [padS64, byv] using this, HB1.out, HSZ1.out⟩
  case round =>
    clear HO1 HB1 HSZ1
    obtain ⟨m, g, cap, hm, rfl, hown, hbel, hsz⟩ := hrel
    have HO := Box.mk hown; have HB := Box.mk hbel; have HSZ2 := Box.mk hsz
    have r6 : wr.heap[b6]? = some (.cells (kc ⟨64, sh512, .slice (some ⟨gK, 0, none⟩) 80 cK, .slice (some ⟨gH, 0, none⟩) 8 cH⟩) 109 (0, 0)) := (hbel.block b6 (by rw [HSB.out]; exact (Array.getElem?_eq_some_iff.1 R6.out).1)).trans R6.out
    have cW : wr.cell? ⟨b6, 0, none⟩ = some (.int .i64 64) := cell_of_row _ _ _ _ _ _ r6
    clear hown hbel hsz r6
    obtain ⟨N, hN⟩ : ∃ N, N = l.length + 1 + m := ⟨_, rfl⟩
    rw [← hN] at HO ⊢
    have hNl : N ≤ 1000000 := by have := HLL.out; have := HZB.out; omega
    obtain ⟨N8, hN8⟩ : ∃ N8, N8 = N + 16 := ⟨_, rfl⟩
    obtain ⟨q, hq⟩ : ∃ q, q = N8 % 128 := ⟨_, rfl⟩
    have m1 : (64 : Int).tdiv 4 = 16 := by decide
    have m2 : IntKind.i64.wrap 16 = 16 := by decide
    have m3 : IntKind.i64.wrap ((N : Int) + 16) = (N8 : Int) := by rw [IntKind.wrap_i64]; omega
    have m4 : IntKind.i64.wrap (2 * 64) = 128 := by decide
    have m5 : (N8 : Int).tmod 128 = (q : Int) := by rw [Int.tmod_eq_emod_of_nonneg (by omega)]; omega
    have m6 : IntKind.i64.wrap (q : Int) = (q : Int) := by rw [IntKind.wrap_i64]; omega
    by_cases hlt : m < Z
    · have hne : q ≠ 0 := by
        have := HZ2.out m hlt
        rw [hq, hN8, hN]; exact this
      have hneB : ((q : Int) != 0) = true := by rw [bne_iff_ne]; omega
      have HN := Box.mk hN
      clear hne hq hN8 hN
      go_wp2_with (at_builtin; refine wpList_app1 (w0 := w1) rfl (.tmp 42) (.tmp 43) 54 rfl SB 5 (.int .u8 0) 1 Try.underlying54 (by kernel_rfl) rfl (.slice (some ⟨g, 0, none⟩) N cap) N ((padS64 l m 0).map byv) rfl (HO.out.alloc _) (HB.out.alloc HSZ2.out _) (by have := HSZ2.out; simp; omega) wr.heap.size (.int .u8 0) rfl (cell_new _ _ _) rfl (by omega) (by omega) ?_)
      intro v2 w3 hown2 hbel2 hsz2 _ hnn2
      obtain ⟨g2, cap2, rfl, _⟩ := hown2.cells hnn2
      have HO3 := Box.mk hown2; have HB3 := Box.mk hbel2; have HSZ3 := Box.mk hsz2
      clear hown2 hbel2 hnn2 hsz2 HO HB
      go_wp2
      refine ⟨⟨m + 1, g2, cap2, by omega, ?_, ?_, HB3.out, HSZ3.out⟩, ?_⟩
      · rw [show l.length + 1 + (m + 1) = N + 1 by have := HN.out; omega]
      · have := HO3.out
        rw [show l.length + 1 + (m + 1) = N + 1 by have := HN.out; omega, padS64_zero, List.map_append]
        exact this
      · have := HN.out
        have := HZB.out
        show l.length + 1000 - (N + 1) < l.length + 1000 - N
        omega
    · obtain rfl : Z = m := by omega
      have hq0 : q = 0 := by have := HZ1.out; omega
      have hneB : ((q : Int) != 0) = false := by rw [hq0]; rfl
      have HN := Box.mk hN
      clear hq hN8 hN hq0 hlt hm
      have m7 : IntKind.i64.wrap (16 - 1) = 15 := by decide
      go_wp2_with fail
      clear m1 m2 m3 m4 m5 m6 m7 hneB cW
      go_loopw [7, 8] (fun b i wr => ∃ j g cap : Nat, j ≤ 16 ∧ i = .int .i64 (15 - (j : Int)) ∧ b = .slice (some ⟨g, 0, none⟩) (N + j) cap ∧ Own wr SB 5 b (N + j) ((padS64 l Z j).map byv) ∧ Below SB w1 wr ∧ SB ≤ wr.heap.size) (fun _ i _ => (intOf i + 1).toNat)
      case atStart => exact ⟨0, g, cap, by omega, rfl, rfl, HO.out, HB.out, HSZ2.out⟩
      case round =>
        clear HO HB HSZ2
        obtain ⟨j, g, cap, hj, rfl, rfl, hown, hbel, hsz⟩ := hrel
        have HO := Box.mk hown; have HB := Box.mk hbel; have HSZ2 := Box.mk hsz
        clear hown hbel hsz
        by_cases hlt : j < 16
        · obtain ⟨c, hc⟩ : ∃ c : Nat, c = 15 - j := ⟨_, rfl⟩
          have hcI : (15 : Int) - (j : Int) = (c : Int) := by omega
          rw [hcI]
          have HC := Box.mk hc
          have HST := Box.mk (padS64_step l Z j hlt)
          obtain ⟨M, hM⟩ : ∃ M, M = N + j := ⟨_, rfl⟩
          have hM5 : M + 1 ≤ 1000000000 := by omega
          rw [← hM] at HO ⊢
          have HM := Box.mk hM
          obtain ⟨L8, hL8⟩ : ∃ L8, L8 = 8 * l.length := ⟨_, rfl⟩
          have hLI : (s.size : Int) = (l.length : Int) := by rw [HSZ.out]
          have hL1 : IntKind.u64.wrap (l.length : Int) = (l.length : Int) := by rw [IntKind.wrap_u64]; have := HLL.out; omega
          have hL2 : IntKind.u64.wrap ((l.length : Int) * 8) = (L8 : Int) := by rw [IntKind.wrap_u64]; have := HLL.out; omega
          have HY := Box.mk (show Value.int .u8 ((L8 : Int) / 2 ^ (8 * c) % 256) = byv (UInt8.ofNat (8 * l.length / 256 ^ (16 - 1 - j))) from by
            rw [shift_byte L8 (8 * c) (16 - 1 - j) (by omega), hL8])
          have HL8 := Box.mk hL8
          have HLB : Box (L8 ≤ 7200000) := ⟨by have := HLL.out; omega⟩
          clear hcI hL8 hM hc
          by_cases hc8 : c < 8
          · have hcI : (c : Int) < 8 := by omega
            obtain ⟨t, ht⟩ : ∃ t, t = 8 * c := ⟨_, rfl⟩
            have htw : IntKind.i64.wrap (8 * (c : Int)) = (t : Int) := by rw [IntKind.wrap_i64]; omega
            have htm : min t 64 = t := by omega
            rw [← ht] at HY
            obtain ⟨y, hy⟩ : ∃ y, y = L8 / 2 ^ t := ⟨_, rfl⟩
            have htI : (L8 : Int) / 2 ^ min t 64 = (y : Int) := by rw [htm, hy]; simp
            have HY2 : Box (Value.int .u8 ((y : Int) % 256) = byv (UInt8.ofNat (8 * l.length / 256 ^ (16 - 1 - j)))) := ⟨by rw [← HY.out, hy]; simp⟩
            clear ht htm HY hc8 hy
            go_wp2_with (at_builtin; refine wpList_app1 (w0 := w1) rfl (.tmp 62) (.tmp 65) 54 rfl SB 5 (.int .u8 0) 1 Try.underlying54 (by kernel_rfl) rfl (.slice (some ⟨g, 0, none⟩) M cap) M ((padS64 l Z j).map byv) rfl (HO.out.alloc _) (HB.out.alloc HSZ2.out _) (by have := HSZ2.out; simp; omega) wr.heap.size (.int .u8 ((y : Int) % 256)) rfl (cell_new _ _ _) rfl hM5 (by omega) ?_)
            intro v2 w3 hown2 hbel2 hsz2 _ hnn2
            obtain ⟨g2, cap2, rfl, _⟩ := hown2.cells hnn2
            have HO3 := Box.mk hown2; have HB3 := Box.mk hbel2; have HSZ3 := Box.mk hsz2
            clear hown2 hbel2 hnn2 hsz2 HO HB
            go_wp2
            refine ⟨⟨j + 1, g2, cap2, by omega, int_congr (by have := HC.out; omega), ?_, ?_, HB3.out, HSZ3.out⟩, by have := HC.out; simp [intOf]⟩
            · rw [show N + (j + 1) = M + 1 by have := HM.out; omega]
            · have := HO3.out
              rw [show N + (j + 1) = M + 1 by have := HM.out; omega, HST.out, List.map_append]
              rw [HY2.out] at this
              exact this
          · have hcI : ¬ (c : Int) < 8 := by omega
            have hcU : (c : Int) < 16 := by have := HC.out; omega
            have hwc : IntKind.i64.wrap ((c : Int) - 1) = (c : Int) - 1 := by rw [IntKind.wrap_i64]; omega
            have hwc2 : wrap64 ((c : Int) - 1) = (c : Int) - 1 := by unfold wrap64; omega
            have HY2 : Box (Value.int .u8 0 = byv (UInt8.ofNat (8 * l.length / 256 ^ (16 - 1 - j)))) := ⟨by
              rw [show 8 * l.length / 256 ^ (16 - 1 - j) = 0 from Nat.div_eq_of_lt (by
                have h1 := HLB.out
                have h2 : 256 ^ 8 ≤ 256 ^ (16 - 1 - j) := Nat.pow_le_pow_right (by omega) (by have := HC.out; omega)
                have h3 := HL8.out
                omega)]; rfl⟩
            clear HY hc8
            go_wp2_with (at_builtin; refine wpList_app1 (w0 := w1) rfl (.tmp 62) (.tmp 65) 54 rfl SB 5 (.int .u8 0) 1 Try.underlying54 (by kernel_rfl) rfl (.slice (some ⟨g, 0, none⟩) M cap) M ((padS64 l Z j).map byv) rfl (HO.out.alloc _) (HB.out.alloc HSZ2.out _) (by have := HSZ2.out; simp; omega) wr.heap.size (.int .u8 0) rfl (cell_new _ _ _) rfl hM5 (by omega) ?_)
            intro v2 w3 hown2 hbel2 hsz2 _ hnn2
            obtain ⟨g2, cap2, rfl, _⟩ := hown2.cells hnn2
            have HO3 := Box.mk hown2; have HB3 := Box.mk hbel2; have HSZ3 := Box.mk hsz2
            clear hown2 hbel2 hnn2 hsz2 HO HB
            go_wp2
            refine ⟨⟨j + 1, g2, cap2, by omega, int_congr (by have := HC.out; omega), ?_, ?_, HB3.out, HSZ3.out⟩, by have := HC.out; simp [intOf]⟩
            · rw [show N + (j + 1) = M + 1 by have := HM.out; omega]
            · have := HO3.out
              rw [show N + (j + 1) = M + 1 by have := HM.out; omega, HST.out, List.map_append]
              rw [HY2.out] at this
              exact this
        · obtain rfl : j = 16 := by omega
          have hlen := HO.out.1
          rw [HZ.out, padS64_all] at HO hlen
          rw [List.length_map] at hlen
          obtain ⟨Lb, hLb⟩ : ∃ Lb, Lb = l ++ padB 128 l.length := ⟨_, rfl⟩
          rw [← hLb] at HO hlen
          have HLb := Box.mk hLb
          obtain ⟨C, hC⟩ : ∃ C, N + 16 = 128 * C := ⟨(N + 16) / 128, by have := HN.out; have := HZ1.out; omega⟩
          have hC5 : 128 * C ≤ 1000000 := by rw [← hC]; omega
          rw [hC] at HO hlen ⊢
          obtain ⟨w3, rfl⟩ : ∃ w3 : World, w3 = wr := ⟨_, rfl⟩
          have HK3 := Box.mk (HK.out.below (HB.out.mono (by rw [HSB.out]; exact Nat.le_refl _)))
          have R63 := Box.mk ((HB.out.block b6 (by rw [HSB.out]; exact (Array.getElem?_eq_some_iff.1 R6.out).1)).trans R6.out)
          have OB := Box.mk HO.out
          have B3 := Box.mk (B1.out.trans (HB.out.mono (by rw [HSB.out]; exact B1.out.size)))
          have HLEN := Box.mk hlen
          have HRR : Box (R = (run 128 k512.step C k512.h Lb).1.list.flatMap fun x => bytesOf x 8) := ⟨by
            rw [HR.out]
            show ((blks 128 k512.step k512.h (l ++ padB 128 l.length)).1.list.flatMap fun x => bytesOf x 8) = _
            unfold blks
            rw [← HLb.out, HLEN.out, Nat.mul_div_cancel_left _ (by decide)]⟩
          clear hlt hj HN hC hlen hLb HLb HO HB HSZ2 HZ HZ1 HZ2 HZB HR HK R6 B1 HSB hNl HLL HSZ
          have cH : w3.cell? ⟨b6, 14, none⟩ = some (.slice (some ⟨gH, 0, none⟩) 8 cH) := cell_of_row _ _ _ _ _ _ R63.out
          have SUM0 : Box (∀ q, q < 8 → w3.cell? ⟨gH, q, none⟩ = some (.int .u64 ((run 128 k512.step 0 k512.h Lb).1.list.getD q 0 : Nat))) := ⟨fun q hq => by rw [HK3.out.cH q hq, H64_eq]; rfl⟩
          have LH0 : Box (gH < w3.heap.size) := ⟨HK3.out.lH⟩
          have OK0 : Box ((run 128 k512.step 0 k512.h Lb).1.Ok 64) := ⟨h64_ok⟩
          obtain ⟨gb, capb, hge, _, hbc, hbl, _⟩ := OB.out.cells (by simp)
          injection hge with h1 h2 h3
          injection h1 with h1
          injection h1 with h1
          subst h1
          have HBC : Box (∀ q, q < 128 * C → w3.cell? ⟨g, q, none⟩ = some (.int .u8 ((Lb.getD q 0).toNat : Nat))) := ⟨fun q hq => hbc q _ (byv_at _ _ (by have := HLEN.out; omega))⟩
          have HBL := Box.mk hbl
          clear hbc hbl h2 h3 OB
          go_wp2_with fail
          clear cH
          go_loopw [10, 11] (fun u i wr => ∃ c gs cs : Nat, c ≤ C ∧ i = .int .i64 (128 * (c : Int)) ∧ u = .slice (some ⟨gs, 0, none⟩) 8 cs ∧ gs < wr.heap.size ∧ (∀ q, q < 8 → wr.cell? ⟨gs, q, none⟩ = some (.int .u64 ((run 128 k512.step c k512.h Lb).1.list.getD q 0 : Nat))) ∧ (run 128 k512.step c k512.h Lb).1.Ok 64 ∧ Below w3.heap.size w3 wr) (fun _ i _ => 128 * C - (intOf i).toNat)
          case atStart => exact ⟨0, gH, _, by omega, rfl, rfl, LH0.out, SUM0.out, OK0.out, Below.refl _ _⟩
          case round =>
            clear SUM0 LH0 OK0
            obtain ⟨wo, rfl⟩ : ∃ wo : World, wo = wr := ⟨_, rfl⟩
            obtain ⟨c, gs, cs, hc, rfl, rfl, hgl, hsum, hok, hbel⟩ := hrel
            have HGL := Box.mk hgl; have HSUM := Box.mk hsum; have HOK := Box.mk hok; have HB := Box.mk hbel
            clear hgl hsum hok hbel
            have HKo := Box.mk (HK3.out.below HB.out)
            have R6o := Box.mk ((Gr.of HB.out).block R63.out)
            by_cases hlt : c < C
            · have hltI : 128 * (c : Int) < 128 * (C : Int) := by omega
              obtain ⟨SD, hSD⟩ : ∃ SD, SD = wo.heap.size := ⟨_, rfl⟩
              have o0 : Box (Own (wo.alloc (.cells #[] 92)) SD 92 (.slice (some ⟨wo.heap.size, 0, none⟩) 0 0) 0 ((wordsOf 8 0 (Lb.drop (128 * c))).map u64v)) := ⟨Own.made wo 92 #[] 0 SD (by omega) (by unfold maxLen; omega) rfl⟩
              have b0 : Box (Below SD wo (wo.alloc (.cells #[] 92))) := ⟨(Below.refl _ _).alloc (by omega) _⟩
              have s0 : Box (SD ≤ (wo.alloc (.cells #[] 92)).heap.size) := ⟨by simp; omega⟩
              have HSD := Box.mk hSD
              clear hSD
              go_wp2_with fail
              go_loopw [12, 13] (fun v i wr => ∃ t : Nat, t ≤ 16 ∧ i = .int .i64 t ∧ Own wr SD 92 v t ((wordsOf 8 t (Lb.drop (128 * c))).map u64v) ∧ v ≠ .slice none 0 0 ∧ Below SD wo wr ∧ SD ≤ wr.heap.size) (fun _ i _ => 16 - (intOf i).toNat)
              case atStart => exact ⟨0, by omega, rfl, o0.out, by simp, b0.out, s0.out⟩
              case round =>
                clear o0 b0 s0
                obtain ⟨wx, rfl⟩ : ∃ wx : World, wx = wr := ⟨_, rfl⟩
                obtain ⟨t, ht, rfl, hown, hne, hbel, hsz⟩ := hrel
                have OW := Box.mk hown; have NE := Box.mk hne; have HBx := Box.mk hbel; have HSx := Box.mk hsz
                clear hown hne hbel hsz
                have R6x := Box.mk ((HBx.out.block b6 (by rw [HSD.out]; exact (Array.getElem?_eq_some_iff.1 R6o.out).1)).trans R6o.out)
                by_cases htl : t < 16
                · obtain ⟨gw, cw, hve, _⟩ := OW.out.cells NE.out
                  subst hve
                  have htI : (t : Int) < 16 := by omega
                  have cW : wx.cell? ⟨b6, 0, none⟩ = some (.int .i64 64) := cell_of_row _ _ _ _ _ _ R6x.out
                  have HBx3 : Box (Below w3.heap.size w3 wx) := ⟨HB.out.trans (HBx.out.mono (by rw [HSD.out]; exact HB.out.size))⟩
                  obtain ⟨q, hq⟩ : ∃ q, q = 128 * c + 8 * t := ⟨_, rfl⟩
                  have HQL : Box (q + 8 ≤ 128 * C) := ⟨by omega⟩
                  have hqI : 128 * (c : Int) + 8 * (t : Int) = (q : Int) := by omega
                  have m1 : (64 : Int).tdiv 8 = 8 := by decide
                  have m2 : IntKind.i64.wrap 8 = 8 := by decide
                  have m3 : IntKind.i64.wrap ((t : Int) * 64) = (t : Int) * 64 := by rw [IntKind.wrap_i64]; omega
                  have m4 : ((t : Int) * 64).tdiv 8 = 8 * (t : Int) := by rw [Int.tdiv_eq_ediv_of_nonneg (by omega)]; omega
                  have m5 : IntKind.i64.wrap (8 * (t : Int)) = 8 * (t : Int) := by rw [IntKind.wrap_i64]; omega
                  have m6 : IntKind.i64.wrap (128 * (c : Int) + 8 * (t : Int)) = (q : Int) := by rw [IntKind.wrap_i64]; omega
                  have HWS := Box.mk (wordsOf_snoc 8 t (Lb.drop (128 * c)))
                  rw [List.drop_drop, ← hq] at HWS
                  clear hq
                  go_wp2_with fail
                  go_loop [14, 15] (fun x i => ∃ j : Nat, j ≤ 8 ∧ i = .int .i64 j ∧ x = .int .u64 (be ((Lb.drop q).take j) : Nat)) (fun _ i => 8 - (intOf i).toNat)
                  case atStart => exact ⟨0, by omega, rfl, by simp [be]⟩
                  case round =>
                    obtain ⟨j, hj, rfl, rfl⟩ := hrel
                    by_cases hjl : j < 8
                    · have hjI : (j : Int) < 8 := by omega
                      obtain ⟨p, hp⟩ : ∃ p, p = q + j := ⟨_, rfl⟩
                      have hst := be_stepL Lb q j (by have := HLEN.out; have := HQL.out; omega)
                      rw [← hp] at hst
                      have hbl : be ((Lb.drop q).take j) * 256 < 18446744073709551616 := by
                        have h1 := be_lt ((Lb.drop q).take j)
                        have h2 : ((Lb.drop q).take j).length ≤ 7 := by rw [List.length_take]; omega
                        have h3 : 256 ^ ((Lb.drop q).take j).length ≤ 256 ^ 7 := Nat.pow_le_pow_right (by omega) h2
                        omega
                      have hpB : p < 128 * C := by have := HQL.out; omega
                      have hpI : (p : Int) < 128 * (C : Int) := by omega
                      have hcc : wx.cell? ⟨g, p, none⟩ = some (.int .u8 ((Lb.getD p 0).toNat : Nat)) := (HBx3.out.cell (p := ⟨g, p, none⟩) HBL.out).trans (HBC.out p hpB)
                      have hb256 := (Lb.getD p 0).toNat_lt
                      generalize (Lb.getD p 0).toNat = b at hst hcc hb256
                      generalize be ((Lb.drop q).take j) = x at hst hbl
                      obtain ⟨y, hy⟩ : ∃ y, y = x * 256 := ⟨_, rfl⟩
                      have hw1 : IntKind.u64.wrap ((x : Int) * 256) = (y : Int) := by rw [IntKind.wrap_u64]; omega
                      have hw2 : IntKind.u64.wrap (b : Int) = (b : Int) := by rw [IntKind.wrap_u64]; omega
                      obtain ⟨z, hz⟩ : ∃ z, z = y + b := ⟨_, rfl⟩
                      have hw3 : IntKind.u64.wrap ((y : Int) + (b : Int)) = (z : Int) := by rw [IntKind.wrap_u64]; omega
                      have m7 : IntKind.i64.wrap ((q : Int) + (j : Int)) = (p : Int) := by rw [IntKind.wrap_i64]; omega
                      have HST : Box (be ((Lb.drop q).take (j + 1)) = z) := ⟨by rw [hst, hz, hy]; omega⟩
                      clear hst hbl hb256 hy hz hp hpB
                      go_wp2_with fail
                      exact ⟨⟨j + 1, by omega, by go_num, by rw [HST.out]⟩, by simp [intOf]; omega⟩
                    · obtain rfl : j = 8 := by omega
                      generalize be ((Lb.drop q).take 8) = x at HWS
                      go_wp2_with (at_builtin; refine wpList_app1 (w0 := wo) rfl (.tmp 106) (.tmp 108) 107 rfl SD 92 (.int .u64 0) 8 Try.underlying107 (by kernel_rfl) rfl (.slice (some ⟨gw, 0, none⟩) t cw) t ((wordsOf 8 t (Lb.drop (128 * c))).map u64v) rfl (OW.out.alloc _) (HBx.out.alloc HSx.out _) (by have := HSx.out; simp; omega) wx.heap.size (.int .u64 (x : Nat)) rfl (cell_new _ _ _) rfl (by omega) (by omega) ?_)
                      intro v2 w4 hown2 hbel2 hsz2 _ hnn2
                      have HO3 := Box.mk hown2; have HB4 := Box.mk hbel2; have HSZ3 := Box.mk hsz2; have NN := Box.mk hnn2
                      clear hown2 hbel2 hnn2 hsz2
                      go_wp2_with fail
                      exact ⟨⟨t + 1, by omega, by go_num, by rw [HWS.out, List.map_append]; exact HO3.out, NN.out, HB4.out, HSZ3.out⟩, by simp [intOf]; omega⟩
                · obtain rfl : t = 16 := by omega
                  have HSTEP : Box ((run 128 k512.step (c + 1) k512.h Lb).1 = blk 64 sh512 K64 (run 128 k512.step c k512.h Lb).1 (wordsOf 8 16 (Lb.drop (128 * c)))) := ⟨by rw [run_succ, step64_eq]⟩
                  have hblk := block_any ⟨64, sh512, .slice (some ⟨gK, 0, none⟩) 80 cK, .slice (some ⟨gH, 0, none⟩) 8 cH⟩ (.inr rfl) sh512_ok K64 K64_lt 80 K64_len (by omega) (by omega) gK cK rfl (run 128 k512.step c k512.h Lb).1 HOK.out gs cs (wordsOf 8 16 (Lb.drop (128 * c))) (wordsOf_len _ _ _) (fun x hx => wordsOf_lt 8 16 _ x hx) _ SD wx HSx.out
                    (by rw [HSD.out]; exact HKo.out.lK) (by rw [HSD.out]; exact HGL.out) (fun j hj => (HBx.out.cell (p := ⟨gK, j, none⟩) (by rw [HSD.out]; exact HKo.out.lK)).trans (HKo.out.cK j hj)) (fun j hj => (HBx.out.cell (p := ⟨gs, j, none⟩) (by rw [HSD.out]; exact HGL.out)).trans (HSUM.out j hj)) OW.out NE.out
                  have HBLK := Box.mk hblk
                  clear hblk htl
                  go_wp2_with ((with_reducible refine wpList_loadK rfl (.tmp 6) rfl b6 ⟨64, sh512, .slice (some ⟨gK, 0, none⟩) 80 cK, .slice (some ⟨gH, 0, none⟩) 8 cH⟩ R6x.out ?_ ?_); rfl)
                  refine HBLK.out.mono ?_
                  rintro e w5 ⟨g', rfl, _, hg', hcells, hb5⟩
                  have G5 := Box.mk hg'; have C5 := Box.mk hcells
                  have B5 : Box (Below w3.heap.size w3 w5) := ⟨HB.out.trans ((HBx.out.trans hb5).mono (by rw [HSD.out]; exact HB.out.size))⟩
                  clear hg' hcells hb5 HBLK
                  have hwB : IntKind.i64.wrap (2 * 64) = 128 := by decide
                  have hwi : IntKind.i64.wrap (128 * (c : Int) + 128) = 128 * (c : Int) + 128 := by rw [IntKind.wrap_i64]; omega
                  have cW : w5.cell? ⟨b6, 0, none⟩ = some (.int .i64 64) := cell_of_row _ _ _ _ _ _ ((Gr.of B5.out).block R63.out)
                  go_wp2_with fail
                  refine ⟨⟨c + 1, g', 8, by omega, int_congr (by omega), rfl, G5.out, by rw [HSTEP.out]; exact C5.out, by rw [HSTEP.out]; exact plus_ok _ _ _, B5.out⟩, by simp [intOf]; omega⟩
            · obtain rfl : c = C := by omega
              obtain ⟨Lq, hLq⟩ : ∃ L, L = (run 128 k512.step c k512.h Lb).1.list := ⟨_, rfl⟩
              have hLl : Lq.length = 8 := by rw [hLq]; rfl
              rw [← hLq] at HSUM HRR
              have HLl := Box.mk hLl
              have cW : wo.cell? ⟨b6, 0, none⟩ = some (.int .i64 64) := cell_of_row _ _ _ _ _ _ R6o.out
              obtain ⟨SE, hSE⟩ : ∃ SD, SD = wo.heap.size := ⟨_, rfl⟩
              have o0 : Box (Own (wo.alloc (.cells #[] 5)) SE 5 (.slice (some ⟨wo.heap.size, 0, none⟩) 0 0) (8 * 0) (((Lq.take 0).flatMap fun x => bytesOf x 8).map byv)) := ⟨by simpa using Own.made wo 5 #[] 0 SE (by omega) (by unfold maxLen; omega) rfl⟩
              have b0 : Box (Below SE wo (wo.alloc (.cells #[] 5))) := ⟨(Below.refl _ _).alloc (by omega) _⟩
              have s0 : Box (SE ≤ (wo.alloc (.cells #[] 5)).heap.size) := ⟨by simp; omega⟩
              have HSE := Box.mk hSE
              clear hSE hLl hLq hlt hc HOK
              go_wp2_with fail
              go_loopw [16, 17] (fun b i wr => ∃ n : Nat, n ≤ 8 ∧ i = .int .i64 n ∧ Own wr SE 5 b (8 * n) (((Lq.take n).flatMap fun x => bytesOf x 8).map byv) ∧ b ≠ .slice none 0 0 ∧ Below SE wo wr ∧ SE ≤ wr.heap.size) (fun _ i _ => 8 - (intOf i).toNat)
              case atStart => exact ⟨0, by omega, rfl, o0.out, by simp, b0.out, s0.out⟩
              case round =>
                clear o0 b0 s0 cW
                obtain ⟨n, hn, rfl, hown, hnn, hbel, hsz⟩ := hrel
                by_cases hlt : n < 8
                · have hnI : (n : Int) < 8 := by omega
                  have HSN := Box.mk (take_snoc' Lq n (by have := HLl.out; omega))
                  have HXC := Box.mk (HSUM.out n hlt)
                  generalize Lq.getD n 0 = x at HSN HXC
                  have HB2 := Box.mk hbel; have HOWN := Box.mk hown; have HNN := Box.mk hnn; have HSZ2 := Box.mk hsz
                  have cW : wr.cell? ⟨b6, 0, none⟩ = some (.int .i64 64) := cell_of_row _ _ _ _ _ _ ((hbel.block b6 (by rw [HSE.out]; exact (Array.getElem?_eq_some_iff.1 R6o.out).1)).trans R6o.out)
                  have m1 : IntKind.i64.wrap (64 - 8) = 56 := by decide
                  clear hbel hown hnn hsz
                  go_wp2_with fail
                  clear cW m1
                  go_loopw [16, 18] (fun b k wr => ∃ j : Nat, j ≤ 8 ∧ k = .int .i64 (56 - 8 * (j : Int)) ∧ Own wr SE 5 b (8 * n + j) ((((Lq.take n).flatMap fun x => bytesOf x 8) ++ (bytesOf x 8).take j).map byv) ∧ b ≠ .slice none 0 0 ∧ Below SE wo wr ∧ SE ≤ wr.heap.size) (fun _ k _ => (intOf k + 8).toNat)
                  case atStart => exact ⟨0, by omega, rfl, by simpa using HOWN.out, HNN.out, HB2.out, HSZ2.out⟩
                  case round =>
                    clear HOWN HB2 HNN HSZ2
                    obtain ⟨j, hj, rfl, hown, hnn, hbel, hsz⟩ := hrel
                    by_cases hjl : j < 8
                    · obtain ⟨gw, cw, rfl, _⟩ := hown.cells hnn
                      obtain ⟨c2, hc2⟩ : ∃ c2 : Nat, c2 = 56 - 8 * j := ⟨_, rfl⟩
                      have hcI : 56 - 8 * (j : Int) = (c2 : Int) := by omega
                      rw [hcI]
                      have hc0 : (0 : Int) ≤ (c2 : Int) := by omega
                      have hcU : (c2 : Int) < 64 := by omega
                      have HC2 := Box.mk hc2
                      have HY := Box.mk (shift_byte x c2 (8 - 1 - j) (by omega))
                      have HST := Box.mk (bytesOf_step x 8 j hjl)
                      have htm : min c2 64 = c2 := by omega
                      obtain ⟨y, hy⟩ : ∃ y, y = x / 2 ^ c2 := ⟨_, rfl⟩
                      have htI : (x : Int) / 2 ^ min c2 64 = (y : Int) := by rw [htm, hy]; simp
                      have htI2 : (x : Int) / 2 ^ c2 = (y : Int) := by rw [hy]; simp
                      have HY2 : Box (Value.int .u8 ((y : Int) % 256) = byv (UInt8.ofNat (x / 256 ^ (8 - 1 - j)))) := ⟨by rw [← HY.out, hy]; simp⟩
                      have hxc : wr.cell? ⟨gs, n, none⟩ = some (.int .u64 (x : Nat)) := (hbel.cell (p := ⟨gs, n, none⟩) (by rw [HSE.out]; exact HGL.out)).trans HXC.out
                      have HOWN := Box.mk hown; have HB2 := Box.mk hbel; have HSZ2 := Box.mk hsz
                      obtain ⟨M, hM⟩ : ∃ M, M = 8 * n + j := ⟨_, rfl⟩
                      rw [← hM] at HOWN ⊢
                      have hM5 : M + 1 ≤ 1000000000 := by omega
                      have HM := Box.mk hM
                      have hcw1 : IntKind.i64.wrap ((c2 : Int) - 8) = (c2 : Int) - 8 := by rw [IntKind.wrap_i64]; omega
                      clear hown hnn hbel hsz hy htm HY hM hc2 hcI
                      go_wp2_with (at_builtin; refine wpList_app1 (w0 := wo) rfl (.tmp 126) (.tmp 134) 54 rfl SE 5 (.int .u8 0) 1 Try.underlying54 (by kernel_rfl) rfl (.slice (some ⟨gw, 0, none⟩) M cw) M ((((Lq.take n).flatMap fun x => bytesOf x 8) ++ (bytesOf x 8).take j).map byv) rfl (HOWN.out.alloc _) (HB2.out.alloc HSZ2.out _) (by have := HSZ2.out; simp; omega) wr.heap.size (.int .u8 ((y : Int) % 256)) rfl (cell_new _ _ _) rfl hM5 (by omega) ?_)
                      intro v2 w4 hown2 hbel2 hsz2 _ hnn2
                      have HO3 := Box.mk hown2; have HB4 := Box.mk hbel2; have HSZ3 := Box.mk hsz2; have NN := Box.mk hnn2
                      clear hown2 hbel2 hnn2 hsz2
                      go_wp2_with fail
                      refine ⟨⟨j + 1, by omega, int_congr (by have := HC2.out; omega), ?_, NN.out, HB4.out, HSZ3.out⟩, by have := HC2.out; simp [intOf]; omega⟩
                      have := HO3.out
                      rw [HY2.out] at this
                      rw [show 8 * n + (j + 1) = M + 1 by have := HM.out; omega, HST.out]
                      simpa [List.map_append, List.map_take] using this
                    · obtain rfl : j = 8 := by omega
                      rw [(List.take_of_length_le (by rw [bytesOf_len]; exact Nat.le_refl _) : (bytesOf x 8).take 8 = bytesOf x 8)] at hown
                      have HOWN := Box.mk hown; have HB2 := Box.mk hbel; have HNN := Box.mk hnn; have HSZ2 := Box.mk hsz
                      clear hown hbel hnn hsz
                      go_wp2_with fail
                      exact ⟨⟨n + 1, by omega, by go_num, by rw [HSN.out, List.flatMap_append, Nat.mul_add, Nat.mul_one]; simpa using HOWN.out, HNN.out, HB2.out, HSZ2.out⟩, by simp [intOf]; omega⟩
                · obtain rfl : n = 8 := by omega
                  rw [List.take_of_length_le (by have := HLl.out; omega), ← HRR.out] at hown
                  have hcv := run_str_Own (P := Try.prog) (dst := 9) hown hnn Try.underlying54 Try.underlying5 Try.underlying9
                  have HBF : Box (Below w.heap.size w wr) := ⟨(B3.out.trans (HB.out.mono B3.out.size)).trans (hbel.mono (by rw [HSE.out]; exact Nat.le_trans B3.out.size HB.out.size))⟩
                  clear hown hnn hbel hsz hlt hn
                  go_wp2_with fail
                  go_ret2
                  exact ⟨rfl, HBF.out⟩
end Go.Proofs.Ytopiopomioglfaa.Big
namespace Go.Proofs.Ytopiopomioglfaa.Big
set_option maxRecDepth 100000
set_option linter.unusedVariables false
open Go Go.RowKit
open Sha
theorem doneB_any (k : Int) (hk : Kind k) (s : ByteArray) (hs : s.size ≤ 500000) (w : World) :
    Calls Try.prog 40 #[.int .i64 k, .string s] w fun e w' => e = .returned (.tuple #[.string (sumS k s.data.toList), .int .i64 0]) ∧ Below w.heap.size w w' := by
  rcases hk with rfl | rfl
  · exact one32_any s (by omega) w
  · exact one64_any s (by omega) w
theorem doneB_no (k : Int) (hk : ¬ Kind k) (s : ByteArray) (w : World) :
    Calls Try.prog 40 #[.int .i64 k, .string s] w fun e w' => e = .returned (.tuple #[.string ⟨#[]⟩, .int .i64 30]) ∧ w = w' := by
  have k0 : (k != 0) = true := by rw [bne_iff_ne]; exact fun e => hk (.inl e)
  have k1 : (k != 1) = true := by rw [bne_iff_ne]; exact fun e => hk (.inr e)
  clear hk
  go_enter Try.func40, Try.ntmps40
  go_wp2_with fail
  go_ret2
  exact ⟨rfl, rfl⟩
end Go.Proofs.Ytopiopomioglfaa.Big
namespace Go.Proofs.Ytopiopomioglfaa
set_option maxRecDepth 100000
set_option linter.unusedVariables false
open Go Go.RowKit

/-- The document's writer in a state. -/
structure Rsw (w : World) (g q : Nat) (ws : WS) : Prop where
  at_ : ∃ A : ByteArray, A.data.toList = ws.all ∧ Rwr w g q A ws.made ws.came ws.ended ws.e
theorem Rsw.upd {w w' : World} {g q : Nat} {ws : WS} {S : List Nat} (h : Rsw w g q ws) (hu : Upd S w w') (hn : g ∉ S) : Rsw w' g q ws := by
  obtain ⟨A, h1, h2⟩ := h.at_
  exact ⟨A, h1, h2.upd hu hn⟩
/-- At the head of Write's loop. -/
structure RwL (w wr : World) (F B : Int) (g q p bb cb : Nat) (s0 : FS) (A : ByteArray) (came : Nat) (R : FS × Int × Nat) (s' : FS) (m : Nat) (e : Int) : Prop where
  hwr : Rwr wr g q A m came false e
  fl : Fl 57 wr p bb cb s'
  pa : RPa wr q p F B
  up : Upd [g, p, bb, cb] w wr
  ok : s'.Ok
  nn : s'.n.length = s0.n.length
  le : m ≤ A.size
  go : e = 0 → m % 64 = 0 ∧ FS.wto F B A.data.toList ((A.size - m) / 64) s' m = R
  no : e ≠ 0 → R = (s', e, m)
def cellN (w : World) (g i : Nat) : Nat := match w.cell? ⟨g, i, none⟩ with | some (.int _ n) => n.toNat | _ => 0
def cellZ (w : World) (g i : Nat) : Nat := match w.cell? ⟨g, i, none⟩ with | some (.int _ n) => if n = 0 then 1 else 0 | _ => 0
set_option maxHeartbeats 8000000 in
theorem rwrite_any (g q p bb cb : Nat) (F B : Int) (s : FS) (ws : WS) (str : ByteArray) (w : World) (hf : Fl 57 w p bb cb s) (hok : s.Ok) (h : RPa w q p F B) (hi : In s.n.length F B) (hw : Rsw w g q ws) (hws : ws.Ok B)
    (hp : Spl g q p bb cb) (hs : str.size ≤ 140737488351232) :
    Calls Try.prog 21 #[.pointer (some ⟨g, 0, none⟩), .string str] w fun e w' => e = .returned (.int .i64 (ws.write F B s str.data.toList).2.2) ∧ Fl 57 w' p bb cb (ws.write F B s str.data.toList).1 ∧ Rsw w' g q (ws.write F B s str.data.toList).2.1 ∧ Upd [g, p, bb, cb] w w' := by
  obtain ⟨A0, hA0, hwr⟩ := hw.at_
  obtain ⟨c0, c1, c2, c3, c4, c5⟩ := hwr.cells
  have f1 := hwr.free 1; have f5 := hwr.free 5
  have hlen : str.data.toList.length = str.size := by simp
  have hal := hws.all
  have hA0s : A0.size = ws.all.length := by rw [← hA0]; simp
  obtain ⟨V, hV⟩ : ∃ V, V = ws.write F B s str.data.toList := ⟨_, rfl⟩
  have HV := hV
  unfold WS.write at HV
  rw [← hV]
  clear hV
  have HF := Box.mk hf; have HW := Box.mk hw; have SP := Box.mk hp; have HWR := Box.mk hwr
  by_cases he : ws.e = 0
  · rw [if_neg (by simpa using he)] at HV
    have heb : (ws.e != 0) = false := by simpa using he
    by_cases hn : ws.ended = true
    · rw [if_pos hn] at HV
      have HX := Box.mk HV
      rw [hn] at c4
      clear HV he hn hf hok h hi hw hws hp hlen c0 c1 c2 c3 f1 f5 hwr hA0 hA0s hal
      go_enter Try.func21, Try.ntmps21
      go_wp2
      go_ret
      rw [HX.out]
      exact ⟨rfl, HF.out, HW.out, Upd.refl _ _⟩
    · have hn : ws.ended = false := by simpa using hn
      rw [if_neg (by rw [hn]; decide)] at HV
      obtain ⟨hr1, hr2⟩ := hws.run he
      have hr2 := hr2 hn
      have h1 := hi.lo; have h2 := hi.some; have h3 := hi.hi; have h4 := hi.few
      have SZ := Box.mk (fun n => rsize_any q p F B _ (w.drewN n) (h.upd ((Upd.refl [] w).drewN n) (by simp)) hi)
      rw [hn] at c4
      have hws2 : IntKind.i64.wrap ((A0.size : Int) + (str.size : Int)) = (A0.size : Int) + (str.size : Int) := by rw [IntKind.wrap_i64]; omega
      rw [hlen] at HV
      by_cases hfull : 512 * B < ((ws.all.length + str.size : Nat) : Int)
      · rw [if_pos hfull] at HV
        have hd : decide (512 * B < (A0.size : Int) + (str.size : Int)) = true := by rw [decide_eq_true_eq]; omega
        have HX := Box.mk HV
        have E1 := Box.mk hn; have HA0 := Box.mk hA0
        clear HV he hn hf hok h hi hw hws hp hlen hfull h1 h2 h3 h4 hr1 hr2 f1 hwr hA0 hA0s hal
        go_enter Try.func21, Try.ntmps21
        go_wp2_with fail
        go_quiet ((go_at_call 37; exact quiet_calls (SZ.out _)))
        go_wp2_with fail
        go_ret
        rw [HX.out]
        exact ⟨rfl, HF.out.upd (((Upd.refl [g] w).drewN _).setCell (by simp) _) (SP.out.p.1) (SP.out.p.2.1) (SP.out.p.2.2.1), ⟨A0, HA0.out, (HWR.out.upd ((Upd.refl [] w).drewN _) (by simp)).set5 241⟩, ((Upd.refl [g, p, bb, cb] w).drewN _).setCell (by simp) _⟩
      · rw [if_neg hfull] at HV
        have hd : decide (512 * B < (A0.size : Int) + (str.size : Int)) = false := by rw [decide_eq_false_iff_not]; omega
        obtain ⟨A, hA⟩ : ∃ A : ByteArray, A = A0 ++ str := ⟨_, rfl⟩
        have hAl : A.data.toList = ws.all ++ str.data.toList := by rw [hA, ByteArray.data_append, ← hA0]; simp
        have hAs : A.size = A0.size + str.size := by rw [hA, ByteArray.size_append]
        have hAL : (ws.all ++ str.data.toList).length = A.size := by rw [← hAl]; simp
        rw [hAL, ← hAl] at HV
        obtain ⟨R, hR⟩ : ∃ R, R = FS.wto F B A.data.toList (A.size / 64 - ws.made / 64) s ws.made := ⟨_, rfl⟩
        rw [← hR] at HV
        have hAb : A.size ≤ 131072 := by omega
        have W1 := Box.mk (show Rwr ((w.drewN 1).setCell ⟨g, 1, none⟩ (.string A)) g q A ws.made ws.came false 0 from by
          have := (hwr.upd ((Upd.refl [] w).drewN 1) (by simp)).set1 A
          rw [hn, he] at this; exact this)
        have ST0 := Box.mk (show ∀ n, RwL w ((w.drewN n).setCell ⟨g, 1, none⟩ (.string A)) F B g q p bb cb s A ws.came R s ws.made 0 from fun n => by
          have wr1 := (hwr.upd ((Upd.refl [] w).drewN n) (by simp)).set1 A
          rw [hn, he] at wr1
          have hpp := hp.p
          have ug : Upd [g] w ((w.drewN n).setCell ⟨g, 1, none⟩ (.string A)) := ((Upd.refl [g] w).drewN n).setCell (by simp) _
          refine ⟨wr1, hf.upd ug hpp.1 hpp.2.1 hpp.2.2.1, h.upd ug (S := [g]) (by simpa using hp.hn), ug.mono (T := [g, p, bb, cb]) (by simp), hok, rfl, by omega, fun _ => ⟨by omega, ?_⟩, fun h => absurd rfl h⟩
          rw [hR]; congr 1; omega)
        have HX := Box.mk HV; have HI := Box.mk hi; have E1 := Box.mk (show ws.ended = false ∧ ws.came = ws.all.length from ⟨hn, hr1⟩)
        have HAA := Box.mk hA; have hAI : (A.size : Int) ≤ 131072 := by omega
        have hAAl := Box.mk (show A.data.toList = ws.all ++ str.data.toList ∧ (ws.all ++ str.data.toList).length = A.size from ⟨hAl, hAL⟩)
        have hA0b : A0.size + str.size ≤ 131072 := by omega
        rw [he] at c5 heb
        clear HV he hn hf hok h hi hw hws hp hlen hfull h1 h2 h3 h4 hr1 hr2 f5 hwr hA0 hA0s hal hR hAl hAs hAL W1 HWR HF HW hA
        go_enter Try.func21, Try.ntmps21
        go_wp2_with fail
        go_quiet ((go_at_call 37; exact quiet_calls (SZ.out _)))
        go_wp2_with fail
        have ST1 := Box.mk (ST0.out nq)
        rw [← HAA.out]
        clear ST0 SZ c0 c1 c2 c3 c4 c5 f1 hws2 hd hA0b
        generalize (w.drewN nq).setCell ⟨g, 1, none⟩ (.string A) = w1 at ST1 ⊢
        go_loopw [] (fun wr => ∃ (s' : FS) (m : Nat) (e : Int), RwL w wr F B g q p bb cb s A ws.came R s' m e) (fun wr => A.size - cellN wr g 2 + cellZ wr g 5)
        case atStart => exact ⟨s, ws.made, 0, ST1.out⟩
        case round =>
          clear ST1
          obtain ⟨s', m, e, st⟩ := hrel
          have ST := Box.mk st
          obtain ⟨d0, d1, d2, d3, d4, d5⟩ := st.hwr.cells
          have g5 := st.hwr.free 5; have g3 := st.hwr.free 3
          have hle := st.le
          have CN : Box (cellN wr g 2 = m ∧ cellZ wr g 5 = if e = 0 then 1 else 0) := ⟨by unfold cellN cellZ; rw [d2, d5]; exact ⟨Int.toNat_natCast m, rfl⟩⟩
          have hwd : IntKind.i64.wrap ((A.size : Int) - (m : Int)) = (A.size : Int) - (m : Int) := by rw [IntKind.wrap_i64]; omega
          by_cases hgo : 64 ≤ A.size - m ∧ e = 0
          · obtain ⟨h64, rfl⟩ := hgo
            have hd64 : decide (64 ≤ (A.size : Int) - (m : Int)) = true := by rw [decide_eq_true_eq]; omega
            have he0 : ((0 : Int) == 0) = true := rfl
            obtain ⟨hm64, hR⟩ := st.go rfl
            obtain ⟨k, hk⟩ : ∃ k, (A.size - m) / 64 = k + 1 := ⟨(A.size - m) / 64 - 1, by omega⟩
            rw [hk, FS.wto] at hR
            have PG := Box.mk (fun n => rpage_any g q p bb cb F B s' A m ws.came false 0 64 (wr.drewN n) (st.fl.upd ((Upd.refl [] wr).drewN n) (by simp) (by simp) (by simp)) st.ok (st.pa.upd ((Upd.refl [] wr).drewN n) (by simp)) (by rw [st.nn]; exact HI.out) (st.hwr.upd ((Upd.refl [] wr).drewN n) (by simp)) SP.out.hg SP.out.hq SP.out.hn (by omega) (by omega))
            have OK2 := Box.mk (FS.wpage_ok st.ok F B m ((A.data.toList.drop m).take 64))
            generalize s'.wpage F B m ((A.data.toList.drop m).take 64) = r at hR PG OK2
            obtain ⟨r1, r2⟩ := r
            dsimp only at hR PG OK2
            have HR := Box.mk hR; have HK := Box.mk hk; have HM := Box.mk hm64; have HLE := Box.mk (show m + 64 ≤ A.size by omega)
            clear hR hk hm64 st h64 hle g3
            go_wp2_with fail
            go_quiet (fail)
            go_wp2_with fail
            refine (PG.out _).mono ?_
            rintro e w2 ⟨rfl, hf2, hm2, hu2⟩
            obtain ⟨m', hwr, hm'⟩ := hm2
            have WR2 := Box.mk hwr; have F2 := Box.mk hf2; have U2 := Box.mk (((Upd.refl [g, p, bb, cb] wr).drewN _).trans hu2); have M2 := Box.mk hm'
            obtain ⟨x0, x1, x2, x3, x4, x5⟩ := hwr.cells
            have y5 := hwr.free 5
            clear hwr hf2 hu2 hm' PG d0 d1 d2 d3 d4 d5 g5 x0 x1 x2 x3 x4 hd64 hwd
            go_wp2_with fail
            have ug : Upd [g] w2 (w2.setCell ⟨g, 5, none⟩ (.int .i64 r2)) := (Upd.refl [g] w2).setCell (by simp) _
            have hpp := SP.out.p
            have W3 := WR2.out.set5 r2
            obtain ⟨x0, x1, x2, x3, x4, x5⟩ := W3.cells
            have hc1 : cellN (w2.setCell ⟨g, 5, none⟩ (.int .i64 r2)) g 2 = m' := by unfold cellN; rw [x2]; exact Int.toNat_natCast m'
            have hc2 : cellZ (w2.setCell ⟨g, 5, none⟩ (.int .i64 r2)) g 5 = if r2 = 0 then 1 else 0 := by unfold cellZ; rw [x5]
            have hm' := M2.out
            refine ⟨⟨r1, m', r2, ⟨W3, F2.out.upd ug hpp.1 hpp.2.1 hpp.2.2.1, (ST.out.pa.upd U2.out hpp.2.2.2).upd ug (by simpa using SP.out.hn), (ST.out.up.trans U2.out).trans (ug.mono (by simp)), OK2.out.1, OK2.out.2.trans ST.out.nn, ?_, fun hr => ?_, fun hr => ?_⟩⟩, ?_⟩
            · rw [hm']; have := HLE.out; split <;> omega
            · rw [if_pos hr] at hm'
              have h1 := HR.out
              rw [if_neg (by simpa using hr)] at h1
              refine ⟨by have := HM.out; omega, ?_⟩
              rw [hm', show (A.size - (m + 64)) / 64 = k by have := HK.out; omega]
              exact h1
            · rw [if_neg hr] at hm'
              have h1 := HR.out
              rw [if_pos hr] at h1
              rw [hm']; exact h1.symm
            · rw [hc1, hc2, CN.out.1, CN.out.2, if_pos trivial, hm']
              have := HLE.out
              split <;> omega
          · have HRR : Box (R = (s', e, m)) := ⟨by
              by_cases he0 : e = 0
              · have h1 := (st.go he0).2
                rw [show (A.size - m) / 64 = 0 by have : ¬ 64 ≤ A.size - m := fun h => hgo ⟨h, he0⟩; omega] at h1
                rw [← h1, he0]; rfl
              · exact st.no he0⟩
            have hv := HX.out
            rw [HRR.out] at hv
            dsimp only at hv
            have HV2 := Box.mk hv
            have hpp := SP.out.p
            have FIN : Box (∀ n, (e = 0 → Fl 57 ((wr.drewN n).setCell ⟨g, 3, none⟩ (.int .i64 (A.size : Nat))) p bb cb V.1 ∧ Rsw ((wr.drewN n).setCell ⟨g, 3, none⟩ (.int .i64 (A.size : Nat))) g q V.2.1 ∧ Upd [g, p, bb, cb] w ((wr.drewN n).setCell ⟨g, 3, none⟩ (.int .i64 (A.size : Nat)))) ∧ (e ≠ 0 → Fl 57 (wr.drewN n) p bb cb V.1 ∧ Rsw (wr.drewN n) g q V.2.1 ∧ Upd [g, p, bb, cb] w (wr.drewN n)) ∧ V.2.2 = e) := ⟨fun n => by
              have un : Upd [] wr (wr.drewN n) := (Upd.refl [] wr).drewN n
              have ug : Upd [g] wr ((wr.drewN n).setCell ⟨g, 3, none⟩ (.int .i64 (A.size : Nat))) := ((Upd.refl [g] wr).drewN n).setCell (by simp) _
              rw [hv]
              refine ⟨fun h0 => ⟨st.fl.upd ug hpp.1 hpp.2.1 hpp.2.2.1, ⟨A, rfl, ?_⟩, st.up.trans (ug.mono (by simp))⟩, fun h0 => ⟨st.fl.upd un (by simp) (by simp) (by simp), ⟨A, rfl, ?_⟩, st.up.trans (un.mono (by simp))⟩, rfl⟩
              · have := (st.hwr.upd un (by simp)).set3 A.size
                dsimp only
                rw [if_pos h0, E1.out.1]; exact this
              · have := st.hwr.upd un (by simp)
                dsimp only
                rw [if_neg h0, E1.out.1]; exact this⟩
            clear hv hpp
            by_cases he0 : e = 0
            · subst he0
              have hd64 : decide (64 ≤ (A.size : Int) - (m : Int)) = false := by rw [decide_eq_false_iff_not]; have : ¬ 64 ≤ A.size - m := fun h => hgo ⟨h, rfl⟩; omega
              clear st hgo hle HRR HV2 HX
              go_wp2_with fail
              go_quiet (fail)
              go_wp2_with fail
              go_ret
              obtain ⟨y1, y2, y3⟩ := FIN.out nq
              obtain ⟨z1, z2, z3⟩ := y1 trivial
              exact ⟨by rw [y3]; rfl, z1, z2, z3⟩
            · have hee : (e == 0) = false := by rw [beq_eq_false_iff_ne]; exact he0
              have HEE := Box.mk he0
              by_cases h64 : 64 ≤ A.size - m
              all_goals
                first
                | (have hd64 : decide (64 ≤ (A.size : Int) - (m : Int)) = true := by rw [decide_eq_true_eq]; omega)
                | (have hd64 : decide (64 ≤ (A.size : Int) - (m : Int)) = false := by rw [decide_eq_false_iff_not]; omega)
                clear st hgo hle HRR HV2 HX he0 h64 g3
                go_wp2_with fail
                go_quiet (fail)
                go_wp2_with fail
                go_ret
                obtain ⟨y1, y2, y3⟩ := FIN.out nq
                obtain ⟨z1, z2, z3⟩ := y2 HEE.out
                exact ⟨by rw [y3]; rfl, z1, z2, z3⟩
  · rw [if_pos he] at HV
    have heb : (ws.e != 0) = true := by rw [bne_iff_ne]; exact he
    have HX := Box.mk HV
    clear HV he hf hok h hi hw hws hp hlen c0 c1 c2 c3 c4 f1 f5 hwr hA0 hA0s hal
    go_enter Try.func21, Try.ntmps21
    go_wp2
    go_ret
    rw [HX.out]
    exact ⟨rfl, HF.out, HW.out, Upd.refl _ _⟩
end Go.Proofs.Ytopiopomioglfaa
namespace Go.Proofs.Ytopiopomioglfaa
set_option maxRecDepth 100000
set_option linter.unusedVariables false
open Go Go.RowKit Sha

set_option maxHeartbeats 8000000 in
theorem rend_any (g q p bb cb : Nat) (F B : Int) (s : FS) (ws : WS) (w : World) (hf : Fl 57 w p bb cb s) (hok : s.Ok) (h : RPa w q p F B) (hi : In s.n.length F B) (hw : Rsw w g q ws) (hws : ws.Ok B) (hp : Spl g q p bb cb) :
    Calls Try.prog 22 #[.pointer (some ⟨g, 0, none⟩)] w fun e w' => e = .returned (.int .i64 (ws.fin F B s).2.2) ∧ Fl 57 w' p bb cb (ws.fin F B s).1 ∧ Rsw w' g q (ws.fin F B s).2.1 ∧ Upd [g, p, bb, cb] w w' := by
  obtain ⟨A, hA, hwr⟩ := hw.at_
  obtain ⟨c0, c1, c2, c3, c4, c5⟩ := hwr.cells
  have f4 := hwr.free 4; have f5 := hwr.free 5
  have hal := hws.all; have hmd := hws.made
  have hAs : A.size = ws.all.length := by rw [← hA]; simp
  obtain ⟨V, hV⟩ : ∃ V, V = ws.fin F B s := ⟨_, rfl⟩
  have HV := hV
  unfold WS.fin at HV
  rw [← hV]
  clear hV
  have HF := Box.mk hf; have HW := Box.mk hw; have SP := Box.mk hp
  by_cases he : ws.e = 0
  · rw [if_neg (by simpa using he)] at HV
    have heb : (ws.e != 0) = false := by simpa using he
    by_cases hn : ws.ended = true
    · rw [if_pos hn] at HV
      have HX := Box.mk HV
      rw [hn] at c4
      clear HV he hn hf hok h hi hw hws hp c0 c1 c2 c3 f4 f5 hwr hA hAs hal hmd
      go_enter Try.func22, Try.ntmps22
      go_wp2
      go_ret
      rw [HX.out]
      exact ⟨rfl, HF.out, HW.out, Upd.refl _ _⟩
    · have hn : ws.ended = false := by simpa using hn
      rw [if_neg (by rw [hn]; decide)] at HV
      have h3 := hi.hi; have h4 := hi.few; have h5 := hi.lo
      rw [hn] at c4
      have W1 := Box.mk (show Rwr (w.setCell ⟨g, 4, none⟩ (.bool true)) g q A ws.made ws.came true 0 from by have := hwr.set4 true; rw [he] at this; exact this)
      have ug : Upd [g] w (w.setCell ⟨g, 4, none⟩ (.bool true)) := (Upd.refl [g] w).setCell (by simp) _
      have hpp := hp.p
      have F1 := Box.mk (hf.upd ug hpp.1 hpp.2.1 hpp.2.2.1); have P1 := Box.mk (h.upd ug (by simpa using hp.hn)); have U1 := Box.mk (ug.mono (T := [g, p, bb, cb]) (by simp))
      have HX0 := Box.mk (show A.data.toList = ws.all ∧ ws.e = 0 from ⟨hA, he⟩)
      by_cases hgt : ws.all.length > ws.made
      · rw [if_pos hgt] at HV
        have hd : decide (ws.made < A.size) = true := by rw [decide_eq_true_eq]; omega
        obtain ⟨n, hnn⟩ : ∃ n, n = A.size - ws.made := ⟨_, rfl⟩
        have hwd : IntKind.i64.wrap ((A.size : Int) - (ws.made : Int)) = (n : Int) := by rw [IntKind.wrap_i64]; omega
        have hl : (A.data.toList.drop ws.made).take n = ws.all.drop ws.made := by rw [hA, List.take_of_length_le (by rw [List.length_drop]; omega)]
        have PG := Box.mk (fun k => rpage_any g q p bb cb F B s A ws.made ws.came true 0 n ((w.setCell ⟨g, 4, none⟩ (.bool true)).drewN k) (F1.out.upd ((Upd.refl [] _).drewN k) (by simp) (by simp) (by simp)) hok (P1.out.upd ((Upd.refl [] _).drewN k) (by simp)) hi (W1.out.upd ((Upd.refl [] _).drewN k) (by simp)) SP.out.hg SP.out.hq SP.out.hn (by omega) (by omega))
        rw [hl] at PG
        generalize s.wpage F B ws.made (ws.all.drop ws.made) = r at HV PG
        obtain ⟨r1, r2⟩ := r
        dsimp only at HV PG
        have HX := Box.mk HV; have HNN := Box.mk (show ws.made + n = ws.all.length by omega)
        obtain ⟨d0, d1, d2, d3, d4, d5⟩ := W1.out.cells
        have g5 := W1.out.free 5
        obtain ⟨W0, hW0⟩ : ∃ W0, W0 = w.setCell ⟨g, 4, none⟩ (.bool true) := ⟨_, rfl⟩
        clear HV he hn hf hok h hi hw hws hp hgt hl hpp hal h3 h4 h5 hwr hA hAs hmd ug hnn f5 d0 d3 d4 d5 g5 d1 d2
        go_enter Try.func22, Try.ntmps22
        go_upto_region 6 with (fail)
        rw [← hW0]
        rw [← hW0] at W1 F1 P1 U1 PG
        clear hW0 c0 c1 c2 c3 c4 c5 f4 heb
        obtain ⟨d0, d1, d2, d3, d4, d5⟩ := W1.out.cells
        have g5 := W1.out.free 5
        go_wp2_with fail
        go_quiet (fail)
        go_upto_region 7 with (fail)
        go_region_with (go_at_call 38; refine (PG.out _).mono ?_; rintro e w2 ⟨rfl, hf2, hm2, hu2⟩; have HF2 := Box.mk hf2; have HM2 := Box.mk hm2; have HU2 := Box.mk hu2; obtain ⟨m', hwr, hm'⟩ := hm2; obtain ⟨x0, x1, x2, x3, x4, x5⟩ := hwr.cells; have y5 := hwr.free 5; clear hwr hf2 hu2 hm' x0 x1 x2 x3 x4)
        all_goals
          go_wp2_with fail
          go_ret
          have hpp := SP.out.p
          obtain ⟨m', hwr, hm'⟩ := HM2.out
          rw [HX.out]
          have ug : Upd [g] w2 (w2.setCell ⟨g, 5, none⟩ (.int .i64 r2)) := (Upd.refl [g] w2).setCell (by simp) _
          refine ⟨rfl, HF2.out.upd ug hpp.1 hpp.2.1 hpp.2.2.1, ⟨A, HX0.out.1, ?_⟩, (U1.out.trans ((Upd.refl _ W0).drewN _)).trans (HU2.out.trans (ug.mono (by simp)))⟩
          have h5 := hwr.set5 r2
          rw [hm', HNN.out] at h5
          exact h5
      · rw [if_neg hgt] at HV
        have hd : decide (ws.made < A.size) = false := by rw [decide_eq_false_iff_not]; omega
        have HX := Box.mk HV
        have HE1 := Box.mk hn
        obtain ⟨W0, hW0⟩ : ∃ W0, W0 = w.setCell ⟨g, 4, none⟩ (.bool true) := ⟨_, rfl⟩
        clear HV he hn hf hok h hi hw hws hp hgt hpp hal h3 h4 h5 hwr hA hAs hmd ug f5
        go_enter Try.func22, Try.ntmps22
        go_upto_region 6 with (fail)
        rw [← hW0]
        rw [← hW0] at W1 F1 P1 U1
        clear hW0 c0 c1 c2 c3 c4 c5 f4 heb
        obtain ⟨d0, d1, d2, d3, d4, d5⟩ := W1.out.cells
        go_wp2_with fail
        go_quiet (fail)
        go_wp2_with fail
        go_ret
        have un : Upd [] W0 (W0.drewN nq) := (Upd.refl [] W0).drewN nq
        rw [HX.out]
        refine ⟨rfl, F1.out.upd un (by simp) (by simp) (by simp), ⟨A, HX0.out.1, ?_⟩, U1.out.trans (un.mono (by simp))⟩
        have := W1.out.upd un (by simp)
        dsimp only
        rw [HX0.out.2]; exact this
  · rw [if_pos he] at HV
    have heb : (ws.e != 0) = true := by rw [bne_iff_ne]; exact he
    have HX := Box.mk HV
    clear HV he hf hok h hi hw hws hp c0 c1 c2 c3 c4 f4 f5 hwr hA hAs hal hmd
    go_enter Try.func22, Try.ntmps22
    go_wp2
    go_ret
    rw [HX.out]
    exact ⟨rfl, HF.out, HW.out, Upd.refl _ _⟩

theorem rsread_any (q p bb cb : Nat) (F B : Int) (s : FS) (n : Int) (w : World) (hf : Fl 57 w p bb cb s) (hok : s.Ok) (h : RPa w q p F B) (hi : In s.n.length F B) (bn : -9223372036854775808 ≤ n ∧ n ≤ 9223372036854775807) :
    Calls Try.prog 25 #[.pointer (some ⟨q, 0, none⟩), .int .i64 n] w fun e w' => e = .returned (.tuple #[.string (sreadV s F B n).1, .int .i64 (sreadV s F B n).2]) ∧ Upd [] w w' := by
  have SZ := Box.mk (rsize_any q p F B _ w h hi)
  have RD := Box.mk (rpread_any q p bb cb F B s 0 n w hf hok h hi (by omega) bn)
  by_cases g0 : n < 0
  · have g0' : decide (n < 0) = true := by simpa using g0
    have E : Box (sreadV s F B n = (⟨#[]⟩, 240)) := ⟨by unfold sreadV; rw [if_neg (by omega)]⟩
    clear g0 hf hok h hi bn
    go_enter Try.func25, Try.ntmps25
    go_wp2
    go_ret2
    rw [E.out]
    exact ⟨rfl, Upd.refl _ _⟩
  · have g0' : decide (n < 0) = false := by simpa using g0
    by_cases g1 : 512 * B < n
    · have g1' : decide (512 * B < n) = true := by simpa using g1
      have E : Box (sreadV s F B n = (⟨#[]⟩, 240)) := ⟨by unfold sreadV; rw [if_neg (by omega)]⟩
      clear g0 g1 hf hok h hi bn
      go_enter Try.func25, Try.ntmps25
      go_wp2_with fail
      refine SZ.out.mono ?_
      rintro e w1 ⟨rfl, rfl⟩
      go_wp2_with fail
      go_ret2
      rw [E.out]
      exact ⟨rfl, Upd.refl _ _⟩
    · have g1' : decide (512 * B < n) = false := by simpa using g1
      have E : Box (sreadV s F B n = preadV s F B 0 n) := ⟨by unfold sreadV; rw [if_pos (by omega)]⟩
      rw [← E.out] at RD
      generalize sreadV s F B n = V at RD ⊢
      obtain ⟨V1, V2⟩ := V
      dsimp only at RD ⊢
      clear E g0 g1 hf hok h hi bn
      go_enter Try.func25, Try.ntmps25
      go_wp2_with fail
      refine SZ.out.mono ?_
      rintro e w1 ⟨rfl, rfl⟩
      go_wp2_with fail
      refine RD.out.mono ?_
      rintro e w1 ⟨rfl, hu⟩
      have HU := Box.mk hu; clear hu
      go_wp2_with fail
      go_ret2
      exact ⟨rfl, HU.out⟩
theorem rscheck_any (q p bb cb : Nat) (F B : Int) (s : FS) (n : Int) (sum : ByteArray) (w : World) (hf : Fl 57 w p bb cb s) (hok : s.Ok) (h : RPa w q p F B) (hi : In s.n.length F B) (bn : -9223372036854775808 ≤ n ∧ n ≤ 9223372036854775807) :
    Calls Try.prog 26 #[.pointer (some ⟨q, 0, none⟩), .int .i64 n, .string sum] w fun e w' => e = .returned (.int .i64 (scheckV s F B n sum)) ∧ Upd [] w w' := by
  have RD := Box.mk (rsread_any q p bb cb F B s n w hf hok h hi bn)
  have SZ := sread_size hok F B n
  unfold scheckV
  generalize sreadV s F B n = V at RD SZ ⊢
  obtain ⟨S, x⟩ := V
  dsimp only at RD SZ ⊢
  have ON := Box.mk (fun w => Big.doneB_any 0 (.inl rfl) S (by omega) w)
  generalize sumS 0 S.data.toList = T at ON ⊢
  clear hf hok h hi bn SZ
  by_cases hx : x = 0
  · subst hx
    rw [if_neg (by simp)]
    by_cases hT : T.toList = sum.toList
    all_goals
      first
      | rw [if_pos hT]
      | rw [if_neg hT]
      first
      | (have hb : (T.toList != sum.toList) = false := by simpa using hT)
      | (have hb : (T.toList != sum.toList) = true := by rw [bne_iff_ne]; exact hT)
      first
      | (have hb2 : (T.toList == sum.toList) = true := by simpa using hT)
      | (have hb2 : (T.toList == sum.toList) = false := by rw [beq_eq_false_iff_ne]; exact hT)
      clear hT
      go_enter Try.func26, Try.ntmps26
      go_wp2_with fail
      refine RD.out.mono ?_
      rintro e w1 ⟨rfl, hu⟩
      have HU := Box.mk hu; clear hu
      go_wp2_with fail
      refine (ON.out _).mono ?_
      rintro e w2 ⟨rfl, hb1⟩
      have HB := Box.mk (HU.out.trans (Upd.of_below (S := []) hb1)); clear hb1
      go_wp2_with fail
      go_ret
      exact ⟨rfl, HB.out⟩
  · have hxb : (x != 0) = true := by rw [bne_iff_ne]; exact hx
    rw [if_pos hx]
    clear hx
    go_enter Try.func26, Try.ntmps26
    go_wp2_with fail
    refine RD.out.mono ?_
    rintro e w1 ⟨rfl, hu⟩
    have HU := Box.mk hu; clear hu
    go_wp2_with fail
    go_ret
    exact ⟨rfl, HU.out⟩
end Go.Proofs.Ytopiopomioglfaa
