/- The document of the package curve: its calls. -/
import Derived.Test.YtpgichfagodkpaaCurveJ
import Derived.Test.YtpgichfagodkpaaCurveK
import Derived.Test.YtpgichfagodkpaaCurveH
namespace Go.Proofs.Ytpgichfagodkpaa.Fe
set_option linter.unusedVariables false
open Go Go.RowKit

theorem fv5 : fv 5 ≠ 0 := fun h => by
  have e : 5 % fp = 0 := congrArg Fin.val h
  rw [fp_eq] at e
  revert e; decide
theorem base_doc : fv 4 * fi (fv 5) = fv bY := by
  refine f_cancel fv5 ?_
  have h1 := fi_mul fv5
  have h2 : fv 5 * fv bY = fv 4 := by rw [← fv_mul]; refine fv_eq ?_; rw [bY_eq, fp_eq]
  rw [h2]; grind
theorem encP_base2 : encP CP.base = sbytes (fv 4 * fi (fv 5)).val := by
  rw [base_doc]
  have e2 : (fv bX).val % 2 = 0 := by rw [fv_val, bX_eq, fp_eq]
  unfold encP; show sbytes ((fv bY).val + 2 ^ 255 * ((fv bX).val % 2)) = _; rw [e2]; rfl
theorem Rep.neg1 {X Y : F} {p : CP} (h : Rep X Y 1 p) : Rep (0 - X) Y 1 p.neg := ⟨h.z, by rw [h.x]; show 0 - p.x * 1 = -p.x * 1; grind, h.y⟩
set_option maxRecDepth 100000 in
set_option maxHeartbeats 8000000 in
theorem dis_any (s : ByteArray) (w : World) : Calls Try.prog 16 #[.string s] w fun e w' => ∃ ok, e = .returned (.bool ok) ∧ ((ok = true ∧ ∃ p, encP p = s) ∨ (ok = false ∧ NoP s)) ∧ Gr w w' := by
  have B0 := Box.mk (Gr.refl w)
  go_enter Try.func16, Try.ntmps16
  go_upto_region 1 with (fail)
  try go_frame
  refine wp_region_seq 6 [.flo, .cha, .flo, .flo, .flo, .new (.cells (qcell f0 f0 f0) 50)] (by rfl) rfl (by decide) ?_
  simp only [List.take, List.zip, List.zipWith]
  refine gm_move (.tmp 0) (.inl rfl) (.string s) rfl ?_
  try go_frame
  refine gm_call [.string s] (by kernel_rfl) rfl rfl Stb.tt (fun w1 hw1 _ => (rparse_at s w1).mono ?_)
  rintro e w2 ⟨okA, xA, yA, zA, rfl, hp, hw2⟩
  refine ⟨_, rfl, hw2, ?_⟩
  try go_frame
  have OKA := Box.mk hp
  clear hp
  refine gm_move (.tmp 7) (.inl rfl) (.tuple #[.agg (qcell xA yA zA), .bool okA]) rfl ?_
  try go_frame
  refine gm_extract (vs := #[.agg (qcell xA yA zA), .bool okA]) (.tmp 5) 0 rfl rfl (.agg (qcell xA yA zA)) rfl ?_
  try go_frame
  refine gm_extract (vs := #[.agg (qcell xA yA zA), .bool okA]) (.tmp 5) 1 rfl rfl (.bool okA) rfl ?_
  try go_frame
  refine gm_alloc rfl (.cells (qcell f0 f0 f0) 50) (fun _ => by kernel_rfl) (fun bA hbA hnbA => ?_)
  try go_frame
  refine gm_nil ?_
  intro u1 hw7 hF7
  simp only [List.drop]
  try go_frame
  have nb_bA : w.heap.size ≤ bA := Nat.le_trans B0.out.size hbA
  have GA' : u1.heap[bA]? = some (.cells (qcell f0 f0 f0) 50 (0, 0)) := hF7.2
  have gb : Gr w u1 := B0.out.trans hw7
  have HN0 := Box.mk GA'
  have GA'' := show ((u1.setRow bA (qcell xA yA zA))).heap[bA]? = some (.cells (qcell xA yA zA) 50 (0, 0)) from setRow_heap _ _ _ _ _ _ GA'
  replace gb := gb.setRow (nb_bA) (qcell xA yA zA)
  obtain ⟨V1, hWn⟩ : ∃ W, W = (u1.setRow bA (qcell xA yA zA)) := ⟨_, rfl⟩
  have GA := Box.mk (show V1.heap[bA]? = some (.cells (qcell xA yA zA) 50 (0, 0)) from hWn ▸ GA'')
  replace B0 := Box.mk (show Gr w V1 from hWn ▸ gb)
  clear gb hF7 hw7 GA' GA'' hbA hnbA
  go_upto_region 2 with (((with_reducible refine wpList_storeQ rfl (.tmp 3) (.tmp 8) rfl bA xA yA zA (qcell f0 f0 f0) rfl HN0.out ?_ ?_ ?_); rfl; rfl))
  try go_frame
  rw [← hWn]
  clear hWn HN0
  go_wp2_with fail
  go_ret
  exact ⟨okA, rfl, OKA.out.imp (fun ⟨h, p, _, _, hp, _⟩ => ⟨h, p, hp⟩) id, B0.out⟩
set_option maxRecDepth 100000 in
set_option maxHeartbeats 8000000 in
theorem dadd_any (s r : ByteArray) (w : World) : Calls Try.prog 11 #[.string s, .string r] w fun e w' => ((∃ p q, encP p = s ∧ encP q = r ∧ e = .returned (.tuple #[.string (encP (p.add q)), .int .i64 0])) ∨ ((NoP s ∨ NoP r) ∧ e = .returned (.tuple #[.string ⟨#[]⟩, .int .i64 60]))) ∧ Gr w w' := by
  have B0 := Box.mk (Gr.refl w)
  go_enter Try.func11, Try.ntmps11
  go_upto_region 1 with (fail)
  try go_frame
  refine wp_region_seq 6 [.flo, .cha, .flo, .flo, .flo, .new (.cells (qcell f0 f0 f0) 50)] (by rfl) rfl (by decide) ?_
  simp only [List.take, List.zip, List.zipWith]
  refine gm_move (.tmp 0) (.inl rfl) (.string s) rfl ?_
  try go_frame
  refine gm_call [.string s] (by kernel_rfl) rfl rfl Stb.tt (fun w1 hw1 _ => (rparse_at s w1).mono ?_)
  rintro e w2 ⟨okA, xA, yA, zA, rfl, hp, hw2⟩
  refine ⟨_, rfl, hw2, ?_⟩
  try go_frame
  have OKA := Box.mk hp
  clear hp
  refine gm_move (.tmp 12) (.inl rfl) (.tuple #[.agg (qcell xA yA zA), .bool okA]) rfl ?_
  try go_frame
  refine gm_extract (vs := #[.agg (qcell xA yA zA), .bool okA]) (.tmp 10) 0 rfl rfl (.agg (qcell xA yA zA)) rfl ?_
  try go_frame
  refine gm_extract (vs := #[.agg (qcell xA yA zA), .bool okA]) (.tmp 10) 1 rfl rfl (.bool okA) rfl ?_
  try go_frame
  refine gm_alloc rfl (.cells (qcell f0 f0 f0) 50) (fun _ => by kernel_rfl) (fun bA hbA hnbA => ?_)
  try go_frame
  refine gm_nil ?_
  intro u1 hw7 hF7
  simp only [List.drop]
  try go_frame
  have nb_bA : w.heap.size ≤ bA := Nat.le_trans B0.out.size hbA
  have GA' : u1.heap[bA]? = some (.cells (qcell f0 f0 f0) 50 (0, 0)) := hF7.2
  have gb : Gr w u1 := B0.out.trans hw7
  have HN0 := Box.mk GA'
  have GA'' := show ((u1.setRow bA (qcell xA yA zA))).heap[bA]? = some (.cells (qcell xA yA zA) 50 (0, 0)) from setRow_heap _ _ _ _ _ _ GA'
  replace gb := gb.setRow (nb_bA) (qcell xA yA zA)
  obtain ⟨V1, hWn⟩ : ∃ W, W = (u1.setRow bA (qcell xA yA zA)) := ⟨_, rfl⟩
  have GA := Box.mk (show V1.heap[bA]? = some (.cells (qcell xA yA zA) 50 (0, 0)) from hWn ▸ GA'')
  replace B0 := Box.mk (show Gr w V1 from hWn ▸ gb)
  clear gb hF7 hw7 GA' GA'' hbA hnbA
  go_upto_region 2 with (((with_reducible refine wpList_storeQ rfl (.tmp 6) (.tmp 13) rfl bA xA yA zA (qcell f0 f0 f0) rfl HN0.out ?_ ?_ ?_); rfl; rfl))
  try go_frame
  rw [← hWn]
  clear hWn HN0
  refine wp_region_seq 6 [.flo, .cha, .flo, .flo, .flo, .new (.cells (qcell f0 f0 f0) 50)] (by rfl) rfl (by decide) ?_
  simp only [List.take, List.zip, List.zipWith]
  refine gm_move (.tmp 1) (.inl rfl) (.string r) rfl ?_
  try go_frame
  refine gm_call [.string r] (by kernel_rfl) rfl rfl Stb.tt (fun w1 hw1 _ => (rparse_at r w1).mono ?_)
  rintro e w2 ⟨okB, xB, yB, zB, rfl, hp, hw2⟩
  refine ⟨_, rfl, hw2, ?_⟩
  try go_frame
  have OKB := Box.mk hp
  clear hp
  refine gm_move (.tmp 17) (.inl rfl) (.tuple #[.agg (qcell xB yB zB), .bool okB]) rfl ?_
  try go_frame
  refine gm_extract (vs := #[.agg (qcell xB yB zB), .bool okB]) (.tmp 15) 0 rfl rfl (.agg (qcell xB yB zB)) rfl ?_
  try go_frame
  refine gm_extract (vs := #[.agg (qcell xB yB zB), .bool okB]) (.tmp 15) 1 rfl rfl (.bool okB) rfl ?_
  try go_frame
  refine gm_alloc rfl (.cells (qcell f0 f0 f0) 50) (fun _ => by kernel_rfl) (fun bB hbB hnbB => ?_)
  try go_frame
  refine gm_nil ?_
  intro u2 hw7 hF7
  simp only [List.drop]
  try go_frame
  have ne_bA_bB : bA ≠ bB := Nat.ne_of_lt (Nat.lt_of_lt_of_le (Gr.blt GA.out) hbB)
  have nb_bB : w.heap.size ≤ bB := Nat.le_trans B0.out.size hbB
  have GA' := hw7.block GA.out
  have GB' : u2.heap[bB]? = some (.cells (qcell f0 f0 f0) 50 (0, 0)) := hF7.2
  have gb : Gr w u2 := B0.out.trans hw7
  have HN0 := Box.mk GB'
  have GA'' := show ((u2.setRow bB (qcell xB yB zB))).heap[bA]? = _ from (setRow_other _ _ _ _ (by first | exact ne_bA_bB | exact Ne.symm ne_bB_bA)).trans GA'
  have GB'' := show ((u2.setRow bB (qcell xB yB zB))).heap[bB]? = some (.cells (qcell xB yB zB) 50 (0, 0)) from setRow_heap _ _ _ _ _ _ GB'
  replace gb := gb.setRow (nb_bB) (qcell xB yB zB)
  obtain ⟨V2, hWn⟩ : ∃ W, W = (u2.setRow bB (qcell xB yB zB)) := ⟨_, rfl⟩
  replace GA := Box.mk (show V2.heap[bA]? = some (.cells (qcell xA yA zA) 50 (0, 0)) from hWn ▸ GA'')
  have GB := Box.mk (show V2.heap[bB]? = some (.cells (qcell xB yB zB) 50 (0, 0)) from hWn ▸ GB'')
  replace B0 := Box.mk (show Gr w V2 from hWn ▸ gb)
  clear gb hF7 hw7 GA' GA'' GB' GB'' hbB hnbB
  go_upto_region 3 with (((with_reducible refine wpList_storeQ rfl (.tmp 8) (.tmp 18) rfl bB xB yB zB (qcell f0 f0 f0) rfl HN0.out ?_ ?_ ?_); rfl; rfl))
  try go_frame
  rw [← hWn]
  clear hWn HN0
  rcases OKA.out with ⟨rfl, p, XA, YA, hp, hr, rfl, rfl, rfl⟩ | ⟨rfl, hn⟩
  ·
    have RA := Box.mk hr; have HPA := Box.mk hp
    clear hp hr OKA
    rcases OKB.out with ⟨rfl, q, XB, YB, hp, hr, rfl, rfl, rfl⟩ | ⟨rfl, hn⟩
    ·
      have RB := Box.mk hr; have HPB := Box.mk hp
      clear hp hr OKB
      go_upto_region 5 with (fail)
      try go_frame
      refine wp_region_mix 6 [.flo, .flo, .cha, .flo, .cha, .cha] (by kernel_rfl) (by kernel_rfl) rfl ?_
      simp only [List.take, List.zip, List.zipWith]
      refine gm_loadQ (.tmp 6) rfl bA (qd XA) (qd YA) (qd 1) GA.out rfl ?_
      try go_frame
      refine gm_loadQ (.tmp 8) rfl bB (qd XB) (qd YB) (qd 1) GB.out rfl ?_
      try go_frame
      refine gm_call [] (by kernel_rfl) rfl rfl Stb.tt (fun w1 hw1 _ => (rD w1).mono ?_)
      rintro e w2 ⟨rfl, hw2⟩
      refine ⟨_, rfl, hw2, ?_⟩
      try go_frame
      refine gm_build [(0, .agg (ncell (qd cd)))] rfl rfl _ (qbuild1 (qd cd)) ?_
      try go_frame
      refine gm_call [.agg (qcell (qd XA) (qd YA) (qd 1)), .agg (qcell (qd XB) (qd YB) (qd 1)), .agg (qcell (qd cd) f0 f0)] (by kernel_rfl) rfl rfl Stb.tt (fun w1 hw1 _ => (rPlus RA.out RB.out w1).mono ?_)
      rintro e w2 ⟨X, Y, Z, rfl, hr, hw2⟩
      refine ⟨_, rfl, hw2, ?_⟩
      try go_frame
      have RS := Box.mk hr
      clear hr
      refine gm_call [.agg (qcell (qd X) (qd Y) (qd Z))] (by kernel_rfl) rfl rfl Stb.tt (fun w1 hw1 _ => (rBytes RS.out w1).mono ?_)
      rintro e w2 ⟨rfl, hw2⟩
      refine ⟨_, rfl, hw2, ?_⟩
      try go_frame
      refine gm_nil ?_
      intro u3 hw7 hF7
      simp only [List.drop]
      try go_frame
      have GA' := hw7.block GA.out
      have GB' := hw7.block GB.out
      have gb : Gr w u3 := B0.out.trans (Gr.trans (show Gr V2 V2.drew from (Below.refl _ _).drew) hw7)
      replace GA := Box.mk (show u3.heap[bA]? = some (.cells (qcell (qd XA) (qd YA) (qd 1)) 50 (0, 0)) from GA')
      replace GB := Box.mk (show u3.heap[bB]? = some (.cells (qcell (qd XB) (qd YB) (qd 1)) 50 (0, 0)) from GB')
      replace B0 := Box.mk (show Gr w u3 from gb)
      clear gb hF7 hw7 GA' GB'
      go_wp2_with fail
      go_ret2
      exact ⟨.inl ⟨p, q, HPA.out, HPB.out, rfl⟩, B0.out⟩
    ·
      clear OKB
      have HN := Box.mk hn
      clear hn
      go_wp2_with fail
      go_ret2
      exact ⟨.inr ⟨.inr HN.out, rfl⟩, B0.out⟩
  ·
    clear OKA
    have HN := Box.mk hn
    clear hn
    go_wp2_with fail
    go_ret2
    exact ⟨.inr ⟨.inl HN.out, rfl⟩, B0.out⟩
set_option maxRecDepth 100000 in
set_option maxHeartbeats 8000000 in
theorem dneg_any (s : ByteArray) (w : World) : Calls Try.prog 13 #[.string s] w fun e w' => ((∃ p, encP p = s ∧ e = .returned (.tuple #[.string (encP p.neg), .int .i64 0])) ∨ (NoP s ∧ e = .returned (.tuple #[.string ⟨#[]⟩, .int .i64 60]))) ∧ Gr w w' := by
  have B0 := Box.mk (Gr.refl w)
  go_enter Try.func13, Try.ntmps13
  go_upto_region 1 with (fail)
  try go_frame
  refine wp_region_seq 6 [.flo, .cha, .flo, .flo, .flo, .new (.cells (qcell f0 f0 f0) 50)] (by rfl) rfl (by decide) ?_
  simp only [List.take, List.zip, List.zipWith]
  refine gm_move (.tmp 0) (.inl rfl) (.string s) rfl ?_
  try go_frame
  refine gm_call [.string s] (by kernel_rfl) rfl rfl Stb.tt (fun w1 hw1 _ => (rparse_at s w1).mono ?_)
  rintro e w2 ⟨okA, xA, yA, zA, rfl, hp, hw2⟩
  refine ⟨_, rfl, hw2, ?_⟩
  try go_frame
  have OKA := Box.mk hp
  clear hp
  refine gm_move (.tmp 8) (.inl rfl) (.tuple #[.agg (qcell xA yA zA), .bool okA]) rfl ?_
  try go_frame
  refine gm_extract (vs := #[.agg (qcell xA yA zA), .bool okA]) (.tmp 6) 0 rfl rfl (.agg (qcell xA yA zA)) rfl ?_
  try go_frame
  refine gm_extract (vs := #[.agg (qcell xA yA zA), .bool okA]) (.tmp 6) 1 rfl rfl (.bool okA) rfl ?_
  try go_frame
  refine gm_alloc rfl (.cells (qcell f0 f0 f0) 50) (fun _ => by kernel_rfl) (fun bA hbA hnbA => ?_)
  try go_frame
  refine gm_nil ?_
  intro u1 hw7 hF7
  simp only [List.drop]
  try go_frame
  have nb_bA : w.heap.size ≤ bA := Nat.le_trans B0.out.size hbA
  have GA' : u1.heap[bA]? = some (.cells (qcell f0 f0 f0) 50 (0, 0)) := hF7.2
  have gb : Gr w u1 := B0.out.trans hw7
  have HN0 := Box.mk GA'
  have GA'' := show ((u1.setRow bA (qcell xA yA zA))).heap[bA]? = some (.cells (qcell xA yA zA) 50 (0, 0)) from setRow_heap _ _ _ _ _ _ GA'
  replace gb := gb.setRow (nb_bA) (qcell xA yA zA)
  obtain ⟨V1, hWn⟩ : ∃ W, W = (u1.setRow bA (qcell xA yA zA)) := ⟨_, rfl⟩
  have GA := Box.mk (show V1.heap[bA]? = some (.cells (qcell xA yA zA) 50 (0, 0)) from hWn ▸ GA'')
  replace B0 := Box.mk (show Gr w V1 from hWn ▸ gb)
  clear gb hF7 hw7 GA' GA'' hbA hnbA
  go_upto_region 2 with (((with_reducible refine wpList_storeQ rfl (.tmp 4) (.tmp 9) rfl bA xA yA zA (qcell f0 f0 f0) rfl HN0.out ?_ ?_ ?_); rfl; rfl))
  try go_frame
  rw [← hWn]
  clear hWn HN0
  rcases OKA.out with ⟨rfl, p, XA, YA, hp, hr, rfl, rfl, rfl⟩ | ⟨rfl, hn⟩
  ·
    have RA := Box.mk hr; have HPA := Box.mk hp
    clear hp hr OKA
    go_upto_region 4 with (fail)
    try go_frame
    refine wp_region_mix 8 [.cha, .flo, .flo, .cha, .flo, .flo, .cha, .cha] (by kernel_rfl) (by kernel_rfl) rfl ?_
    simp only [List.take, List.zip, List.zipWith]
    refine gm_call [.int .i64 0] (by kernel_rfl) rfl rfl Stb.tt (fun w1 hw1 _ => (qsmall0 w1).mono ?_)
    rintro e w2 ⟨rfl, hw2⟩
    refine ⟨_, rfl, hw2, ?_⟩
    try go_frame
    refine gm_fieldQ 0 0 (.tmp 4) rfl bA rfl (qfield0 bA) ?_
    try go_frame
    refine gm_loadG (.tmp 14) rfl bA 0 (qd XA) (qcell (qd XA) (qd YA) (qd 1)) GA.out (subq_x _ _ _) rfl ?_
    try go_frame
    refine gm_call [.agg (ncell (qd 0)), .agg (ncell (qd XA))] (by kernel_rfl) rfl rfl Stb.tt (fun w1 hw1 _ => (qminus 0 XA w1).mono ?_)
    rintro e w2 ⟨rfl, hw2⟩
    refine ⟨_, rfl, hw2, ?_⟩
    try go_frame
    refine gm_fieldQ 1 16 (.tmp 4) rfl bA rfl (qfield1 bA) ?_
    try go_frame
    refine gm_loadG (.tmp 17) rfl bA 16 (qd YA) (qcell (qd XA) (qd YA) (qd 1)) GA.out (subq_y _ _ _) rfl ?_
    try go_frame
    refine gm_call [.agg (ncell (qd (0 - XA))), .agg (ncell (qd YA))] (by kernel_rfl) rfl rfl Stb.tt (fun w1 hw1 _ => (rAt (0 - XA) YA w1).mono ?_)
    rintro e w2 ⟨rfl, hw2⟩
    refine ⟨_, rfl, hw2, ?_⟩
    try go_frame
    refine gm_call [.agg (qcell (qd (0 - XA)) (qd YA) (qd 1))] (by kernel_rfl) rfl rfl Stb.tt (fun w1 hw1 _ => (rBytes RA.out.neg1 w1).mono ?_)
    rintro e w2 ⟨rfl, hw2⟩
    refine ⟨_, rfl, hw2, ?_⟩
    try go_frame
    refine gm_nil ?_
    intro u2 hw7 hF7
    simp only [List.drop]
    try go_frame
    have GA' := hw7.block GA.out
    have gb : Gr w u2 := B0.out.trans (Gr.trans (show Gr V1 V1.drew from (Below.refl _ _).drew) hw7)
    replace GA := Box.mk (show u2.heap[bA]? = some (.cells (qcell (qd XA) (qd YA) (qd 1)) 50 (0, 0)) from GA')
    replace B0 := Box.mk (show Gr w u2 from gb)
    clear gb hF7 hw7 GA'
    go_wp2_with fail
    go_ret2
    exact ⟨.inl ⟨p, HPA.out, rfl⟩, B0.out⟩
  ·
    clear OKA
    have HN := Box.mk hn
    clear hn
    go_wp2_with fail
    go_ret2
    exact ⟨.inr ⟨HN.out, rfl⟩, B0.out⟩
set_option maxRecDepth 100000 in
set_option maxHeartbeats 8000000 in
theorem dmul_any (k s : ByteArray) (w : World) : Calls Try.prog 25 #[.string k, .string s] w fun e w' => ((∃ p, encP p = s ∧ k.size = 32 ∧ e = .returned (.tuple #[.string (encP (p.mul (Go.Proofs.Ytpgichfagodkpaa.num k))), .int .i64 0])) ∨ ((NoP s ∨ k.size ≠ 32) ∧ e = .returned (.tuple #[.string ⟨#[]⟩, .int .i64 60]))) ∧ Gr w w' := by
  have B0 := Box.mk (Gr.refl w)
  go_enter Try.func25, Try.ntmps25
  go_upto_region 1 with (fail)
  try go_frame
  refine wp_region_seq 6 [.flo, .cha, .flo, .flo, .flo, .new (.cells (qcell f0 f0 f0) 50)] (by rfl) rfl (by decide) ?_
  simp only [List.take, List.zip, List.zipWith]
  refine gm_move (.tmp 1) (.inl rfl) (.string s) rfl ?_
  try go_frame
  refine gm_call [.string s] (by kernel_rfl) rfl rfl Stb.tt (fun w1 hw1 _ => (rparse_at s w1).mono ?_)
  rintro e w2 ⟨okA, xA, yA, zA, rfl, hp, hw2⟩
  refine ⟨_, rfl, hw2, ?_⟩
  try go_frame
  have OKA := Box.mk hp
  clear hp
  refine gm_move (.tmp 10) (.inl rfl) (.tuple #[.agg (qcell xA yA zA), .bool okA]) rfl ?_
  try go_frame
  refine gm_extract (vs := #[.agg (qcell xA yA zA), .bool okA]) (.tmp 8) 0 rfl rfl (.agg (qcell xA yA zA)) rfl ?_
  try go_frame
  refine gm_extract (vs := #[.agg (qcell xA yA zA), .bool okA]) (.tmp 8) 1 rfl rfl (.bool okA) rfl ?_
  try go_frame
  refine gm_alloc rfl (.cells (qcell f0 f0 f0) 50) (fun _ => by kernel_rfl) (fun bA hbA hnbA => ?_)
  try go_frame
  refine gm_nil ?_
  intro u1 hw7 hF7
  simp only [List.drop]
  try go_frame
  have nb_bA : w.heap.size ≤ bA := Nat.le_trans B0.out.size hbA
  have GA' : u1.heap[bA]? = some (.cells (qcell f0 f0 f0) 50 (0, 0)) := hF7.2
  have gb : Gr w u1 := B0.out.trans hw7
  have HN0 := Box.mk GA'
  have GA'' := show ((u1.setRow bA (qcell xA yA zA))).heap[bA]? = some (.cells (qcell xA yA zA) 50 (0, 0)) from setRow_heap _ _ _ _ _ _ GA'
  replace gb := gb.setRow (nb_bA) (qcell xA yA zA)
  obtain ⟨V1, hWn⟩ : ∃ W, W = (u1.setRow bA (qcell xA yA zA)) := ⟨_, rfl⟩
  have GA := Box.mk (show V1.heap[bA]? = some (.cells (qcell xA yA zA) 50 (0, 0)) from hWn ▸ GA'')
  replace B0 := Box.mk (show Gr w V1 from hWn ▸ gb)
  clear gb hF7 hw7 GA' GA'' hbA hnbA
  go_upto_region 2 with (((with_reducible refine wpList_storeQ rfl (.tmp 6) (.tmp 11) rfl bA xA yA zA (qcell f0 f0 f0) rfl HN0.out ?_ ?_ ?_); rfl; rfl))
  try go_frame
  rw [← hWn]
  clear hWn HN0
  rcases OKA.out with ⟨rfl, p, XA, YA, hp, hr, rfl, rfl, rfl⟩ | ⟨rfl, hn⟩
  ·
    have RA := Box.mk hr; have HPA := Box.mk hp
    clear hp hr OKA
    by_cases hk : k.size = 32
    ·
      have hkI : (k.size : Int) = 32 := by omega
      have Hk := Box.mk hk
      clear hk
      go_upto_region 4 with (fail)
      try go_frame
      refine wp_region_seq 4 [.flo, .flo, .cha, .cha] (by rfl) rfl (by decide) ?_
      simp only [List.take, List.zip, List.zipWith]
      refine gm_move (.tmp 0) (.inl rfl) (.string k) rfl ?_
      try go_frame
      refine gm_loadQ (.tmp 6) rfl bA (qd XA) (qd YA) (qd 1) GA.out rfl ?_
      try go_frame
      refine gm_call [.string k, .agg (qcell (qd XA) (qd YA) (qd 1))] (by kernel_rfl) rfl rfl Stb.tt (fun w1 hw1 _ => (rMany RA.out k Hk.out w1).mono ?_)
      rintro e w2 ⟨X, Y, Z, rfl, hr, hw2⟩
      refine ⟨_, rfl, hw2, ?_⟩
      try go_frame
      have RM := Box.mk hr
      clear hr
      refine gm_call [.agg (qcell (qd X) (qd Y) (qd Z))] (by kernel_rfl) rfl rfl Stb.tt (fun w1 hw1 _ => (rBytes RM.out w1).mono ?_)
      rintro e w2 ⟨rfl, hw2⟩
      refine ⟨_, rfl, hw2, ?_⟩
      try go_frame
      refine gm_nil ?_
      intro u2 hw7 hF7
      simp only [List.drop]
      try go_frame
      have GA' := hw7.block GA.out
      have gb : Gr w u2 := B0.out.trans hw7
      replace GA := Box.mk (show u2.heap[bA]? = some (.cells (qcell (qd XA) (qd YA) (qd 1)) 50 (0, 0)) from GA')
      replace B0 := Box.mk (show Gr w u2 from gb)
      clear gb hF7 hw7 GA'
      clear hkI
      go_wp2_with fail
      go_ret2
      exact ⟨.inl ⟨p, HPA.out, Hk.out, rfl⟩, B0.out⟩
    ·
      have hk' : ((k.size : Int) == 32) = false := by rw [beq_eq_false_iff_ne]; omega
      have HN := Box.mk hk
      clear hk
      go_wp2_with fail
      go_ret2
      exact ⟨.inr ⟨.inr HN.out, rfl⟩, B0.out⟩
  ·
    clear OKA
    have HN := Box.mk hn
    clear hn
    go_wp2_with fail
    go_ret2
    exact ⟨.inr ⟨.inl HN.out, rfl⟩, B0.out⟩
set_option maxRecDepth 100000 in
set_option maxHeartbeats 8000000 in
theorem dboth_any (k s m : ByteArray) (w : World) : Calls Try.prog 27 #[.string k, .string s, .string m] w fun e w' => ((∃ p, encP p = s ∧ k.size = 32 ∧ m.size = 32 ∧ e = .returned (.tuple #[.string (encP ((p.mul (Go.Proofs.Ytpgichfagodkpaa.num k)).add (CP.base.mul (Go.Proofs.Ytpgichfagodkpaa.num m)))), .int .i64 0])) ∨ ((NoP s ∨ k.size ≠ 32 ∨ m.size ≠ 32) ∧ e = .returned (.tuple #[.string ⟨#[]⟩, .int .i64 60]))) ∧ Gr w w' := by
  have B0 := Box.mk (Gr.refl w)
  go_enter Try.func27, Try.ntmps27
  go_upto_region 1 with (fail)
  try go_frame
  refine wp_region_seq 6 [.flo, .cha, .flo, .flo, .flo, .new (.cells (qcell f0 f0 f0) 50)] (by rfl) rfl (by decide) ?_
  simp only [List.take, List.zip, List.zipWith]
  refine gm_move (.tmp 1) (.inl rfl) (.string s) rfl ?_
  try go_frame
  refine gm_call [.string s] (by kernel_rfl) rfl rfl Stb.tt (fun w1 hw1 _ => (rparse_at s w1).mono ?_)
  rintro e w2 ⟨okA, xA, yA, zA, rfl, hp, hw2⟩
  refine ⟨_, rfl, hw2, ?_⟩
  try go_frame
  have OKA := Box.mk hp
  clear hp
  refine gm_move (.tmp 14) (.inl rfl) (.tuple #[.agg (qcell xA yA zA), .bool okA]) rfl ?_
  try go_frame
  refine gm_extract (vs := #[.agg (qcell xA yA zA), .bool okA]) (.tmp 12) 0 rfl rfl (.agg (qcell xA yA zA)) rfl ?_
  try go_frame
  refine gm_extract (vs := #[.agg (qcell xA yA zA), .bool okA]) (.tmp 12) 1 rfl rfl (.bool okA) rfl ?_
  try go_frame
  refine gm_alloc rfl (.cells (qcell f0 f0 f0) 50) (fun _ => by kernel_rfl) (fun bA hbA hnbA => ?_)
  try go_frame
  refine gm_nil ?_
  intro u1 hw7 hF7
  simp only [List.drop]
  try go_frame
  have nb_bA : w.heap.size ≤ bA := Nat.le_trans B0.out.size hbA
  have GA' : u1.heap[bA]? = some (.cells (qcell f0 f0 f0) 50 (0, 0)) := hF7.2
  have gb : Gr w u1 := B0.out.trans hw7
  have HN0 := Box.mk GA'
  have GA'' := show ((u1.setRow bA (qcell xA yA zA))).heap[bA]? = some (.cells (qcell xA yA zA) 50 (0, 0)) from setRow_heap _ _ _ _ _ _ GA'
  replace gb := gb.setRow (nb_bA) (qcell xA yA zA)
  obtain ⟨V1, hWn⟩ : ∃ W, W = (u1.setRow bA (qcell xA yA zA)) := ⟨_, rfl⟩
  have GA := Box.mk (show V1.heap[bA]? = some (.cells (qcell xA yA zA) 50 (0, 0)) from hWn ▸ GA'')
  replace B0 := Box.mk (show Gr w V1 from hWn ▸ gb)
  clear gb hF7 hw7 GA' GA'' hbA hnbA
  go_upto_region 2 with (((with_reducible refine wpList_storeQ rfl (.tmp 8) (.tmp 15) rfl bA xA yA zA (qcell f0 f0 f0) rfl HN0.out ?_ ?_ ?_); rfl; rfl))
  try go_frame
  rw [← hWn]
  clear hWn HN0
  rcases OKA.out with ⟨rfl, p, XA, YA, hp, hr, rfl, rfl, rfl⟩ | ⟨rfl, hn⟩
  ·
    have RA := Box.mk hr; have HPA := Box.mk hp
    clear hp hr OKA
    by_cases hk : k.size = 32
    ·
      have hkI : (k.size : Int) = 32 := by omega
      have Hk := Box.mk hk
      clear hk
      by_cases hk : m.size = 32
      ·
        have hmI : (m.size : Int) = 32 := by omega
        have Hm := Box.mk hk
        clear hk
        go_upto_region 4 with (fail)
        try go_frame
        obtain ⟨bs, hbs⟩ : ∃ b, b = sbytes (fv 4 * fi (fv 5)).val := ⟨_, rfl⟩
        have hbase := rBase
        rw [← hbs] at hbase
        have HBS := Box.mk (hbs.trans encP_base2.symm)
        clear hbs
        refine wp_region_seq 6 [.cha, .cha, .flo, .flo, .flo, .new (.cells (qcell f0 f0 f0) 50)] (by rfl) rfl (by decide) ?_
        simp only [List.take, List.zip, List.zipWith]
        refine gm_call [] (by kernel_rfl) rfl rfl Stb.tt (fun w1 hw1 _ => (hbase w1).mono ?_)
        rintro e w2 ⟨rfl, hw2⟩
        refine ⟨_, rfl, hw2, ?_⟩
        try go_frame
        refine gm_call [.string bs] (by kernel_rfl) rfl rfl Stb.tt (fun w1 hw1 _ => (rparse_at bs w1).mono ?_)
        rintro e w2 ⟨okB, xB, yB, zB, rfl, hp, hw2⟩
        refine ⟨_, rfl, hw2, ?_⟩
        try go_frame
        have OKB := Box.mk hp
        clear hp
        refine gm_move (.tmp 31) (.inl rfl) (.tuple #[.agg (qcell xB yB zB), .bool okB]) rfl ?_
        try go_frame
        refine gm_extract (vs := #[.agg (qcell xB yB zB), .bool okB]) (.tmp 29) 0 rfl rfl (.agg (qcell xB yB zB)) rfl ?_
        try go_frame
        refine gm_extract (vs := #[.agg (qcell xB yB zB), .bool okB]) (.tmp 29) 1 rfl rfl (.bool okB) rfl ?_
        try go_frame
        refine gm_alloc rfl (.cells (qcell f0 f0 f0) 50) (fun _ => by kernel_rfl) (fun bB hbB hnbB => ?_)
        try go_frame
        refine gm_nil ?_
        intro u2 hw7 hF7
        simp only [List.drop]
        try go_frame
        have ne_bA_bB : bA ≠ bB := Nat.ne_of_lt (Nat.lt_of_lt_of_le (Gr.blt GA.out) hbB)
        have nb_bB : w.heap.size ≤ bB := Nat.le_trans B0.out.size hbB
        have GA' := hw7.block GA.out
        have GB' : u2.heap[bB]? = some (.cells (qcell f0 f0 f0) 50 (0, 0)) := hF7.2
        have gb : Gr w u2 := B0.out.trans hw7
        have HN0 := Box.mk GB'
        have GA'' := show ((u2.setRow bB (qcell xB yB zB))).heap[bA]? = _ from (setRow_other _ _ _ _ (by first | exact ne_bA_bB | exact Ne.symm ne_bB_bA)).trans GA'
        have GB'' := show ((u2.setRow bB (qcell xB yB zB))).heap[bB]? = some (.cells (qcell xB yB zB) 50 (0, 0)) from setRow_heap _ _ _ _ _ _ GB'
        replace gb := gb.setRow (nb_bB) (qcell xB yB zB)
        obtain ⟨V2, hWn⟩ : ∃ W, W = (u2.setRow bB (qcell xB yB zB)) := ⟨_, rfl⟩
        replace GA := Box.mk (show V2.heap[bA]? = some (.cells (qcell (qd XA) (qd YA) (qd 1)) 50 (0, 0)) from hWn ▸ GA'')
        have GB := Box.mk (show V2.heap[bB]? = some (.cells (qcell xB yB zB) 50 (0, 0)) from hWn ▸ GB'')
        replace B0 := Box.mk (show Gr w V2 from hWn ▸ gb)
        clear gb hF7 hw7 GA' GA'' GB' GB'' hbB hnbB
        go_upto_region 5 with (((with_reducible refine wpList_storeQ rfl (.tmp 10) (.tmp 32) rfl bB xB yB zB (qcell f0 f0 f0) rfl HN0.out ?_ ?_ ?_); rfl; rfl))
        try go_frame
        rw [← hWn]
        clear hWn HN0
        obtain ⟨rfl, q, XB, YB, hq, hr, rfl, rfl, rfl⟩ := OKB.out.resolve_right (fun h => h.2 _ HBS.out.symm)
        obtain rfl : q = CP.base := encP_inj (hq.trans HBS.out)
        have RB := Box.mk hr
        clear hq hr OKB hbase
        refine wp_region_mix 10 [.flo, .flo, .cha, .flo, .flo, .cha, .cha, .flo, .cha, .cha] (by kernel_rfl) (by kernel_rfl) rfl ?_
        simp only [List.take, List.zip, List.zipWith]
        refine gm_move (.tmp 0) (.inl rfl) (.string k) rfl ?_
        try go_frame
        refine gm_loadQ (.tmp 8) rfl bA (qd XA) (qd YA) (qd 1) GA.out rfl ?_
        try go_frame
        refine gm_call [.string k, .agg (qcell (qd XA) (qd YA) (qd 1))] (by kernel_rfl) rfl rfl Stb.tt (fun w1 hw1 _ => (rMany RA.out k Hk.out w1).mono ?_)
        rintro e w2 ⟨X1, Y1, Z1, rfl, hr, hw2⟩
        refine ⟨_, rfl, hw2, ?_⟩
        try go_frame
        have RM := Box.mk hr
        clear hr
        refine gm_move (.tmp 2) (.inl rfl) (.string m) rfl ?_
        try go_frame
        refine gm_loadQ (.tmp 10) rfl bB (qd XB) (qd YB) (qd 1) GB.out rfl ?_
        try go_frame
        refine gm_call [.string m, .agg (qcell (qd XB) (qd YB) (qd 1))] (by kernel_rfl) rfl rfl Stb.tt (fun w1 hw1 _ => (rMany RB.out m Hm.out w1).mono ?_)
        rintro e w2 ⟨X2, Y2, Z2, rfl, hr, hw2⟩
        refine ⟨_, rfl, hw2, ?_⟩
        try go_frame
        have RN := Box.mk hr
        clear hr
        refine gm_call [] (by kernel_rfl) rfl rfl Stb.tt (fun w1 hw1 _ => (rD w1).mono ?_)
        rintro e w2 ⟨rfl, hw2⟩
        refine ⟨_, rfl, hw2, ?_⟩
        try go_frame
        refine gm_build [(0, .agg (ncell (qd cd)))] rfl rfl _ (qbuild1 (qd cd)) ?_
        try go_frame
        refine gm_call [.agg (qcell (qd X1) (qd Y1) (qd Z1)), .agg (qcell (qd X2) (qd Y2) (qd Z2)), .agg (qcell (qd cd) f0 f0)] (by kernel_rfl) rfl rfl Stb.tt (fun w1 hw1 _ => (rPlus RM.out RN.out w1).mono ?_)
        rintro e w2 ⟨X, Y, Z, rfl, hr, hw2⟩
        refine ⟨_, rfl, hw2, ?_⟩
        try go_frame
        have RS := Box.mk hr
        clear hr
        refine gm_call [.agg (qcell (qd X) (qd Y) (qd Z))] (by kernel_rfl) rfl rfl Stb.tt (fun w1 hw1 _ => (rBytes RS.out w1).mono ?_)
        rintro e w2 ⟨rfl, hw2⟩
        refine ⟨_, rfl, hw2, ?_⟩
        try go_frame
        refine gm_nil ?_
        intro u3 hw7 hF7
        simp only [List.drop]
        try go_frame
        have GA' := hw7.block GA.out
        have GB' := hw7.block GB.out
        have gb : Gr w u3 := B0.out.trans (Gr.trans (show Gr V2 V2.drew from (Below.refl _ _).drew) hw7)
        replace GA := Box.mk (show u3.heap[bA]? = some (.cells (qcell (qd XA) (qd YA) (qd 1)) 50 (0, 0)) from GA')
        replace GB := Box.mk (show u3.heap[bB]? = some (.cells (qcell (qd XB) (qd YB) (qd 1)) 50 (0, 0)) from GB')
        replace B0 := Box.mk (show Gr w u3 from gb)
        clear gb hF7 hw7 GA' GB'
        clear hkI hmI
        go_wp2_with fail
        go_ret2
        exact ⟨.inl ⟨p, HPA.out, Hk.out, Hm.out, rfl⟩, B0.out⟩
      ·
        have hk' : ((m.size : Int) == 32) = false := by rw [beq_eq_false_iff_ne]; omega
        have HN := Box.mk hk
        clear hk
        go_wp2_with fail
        go_ret2
        exact ⟨.inr ⟨.inr (.inr HN.out), rfl⟩, B0.out⟩
    ·
      have hk' : ((k.size : Int) == 32) = false := by rw [beq_eq_false_iff_ne]; omega
      have HN := Box.mk hk
      clear hk
      go_wp2_with fail
      go_ret2
      exact ⟨.inr ⟨.inr (.inl HN.out), rfl⟩, B0.out⟩
  ·
    clear OKA
    have HN := Box.mk hn
    clear hn
    go_wp2_with fail
    go_ret2
    exact ⟨.inr ⟨.inl HN.out, rfl⟩, B0.out⟩
section
variable {a b k m : ByteArray} {p q : CP}
theorem ddis (h : Pt a p) (w : World) : Calls Try.prog 16 #[.string a] w fun e w' => e = .returned (.bool true) ∧ Gr w w' :=
  (dis_any a w).mono fun _ _ ⟨ok, he, ho, hg⟩ => by
    rcases ho with ⟨rfl, _⟩ | ⟨_, hn⟩
    · exact ⟨he, hg⟩
    · exact (h.num hn).elim
theorem ddis_no (h : NoP a) (w : World) : Calls Try.prog 16 #[.string a] w fun e w' => e = .returned (.bool false) ∧ Gr w w' :=
  (dis_any a w).mono fun _ _ ⟨ok, he, ho, hg⟩ => by
    rcases ho with ⟨_, p, hp⟩ | ⟨rfl, _⟩
    · exact (h p hp).elim
    · exact ⟨he, hg⟩
theorem ddadd (h : Pt a p) (h2 : Pt b q) (w : World) : Calls Try.prog 11 #[.string a, .string b] w fun e w' => ∃ t, Box (Pt t (p.add q)) ∧ e = .returned (.tuple #[.string t, .int .i64 0]) ∧ Gr w w' :=
  (dadd_any a b w).mono fun _ _ ⟨ho, hg⟩ => by
    rcases ho with ⟨p', q', hp, hq, he⟩ | ⟨hn | hn, _⟩
    · obtain rfl : p' = p := encP_inj (hp.trans h.eq)
      obtain rfl : q' = q := encP_inj (hq.trans h2.eq)
      exact ⟨_, ⟨⟨rfl⟩⟩, he, hg⟩
    · exact (h.num hn).elim
    · exact (h2.num hn).elim
theorem ddadd_no (h : NoP a ∨ NoP b) (w : World) : Calls Try.prog 11 #[.string a, .string b] w fun e w' => e = .returned (.tuple #[.string ⟨#[]⟩, .int .i64 60]) ∧ Gr w w' :=
  (dadd_any a b w).mono fun _ _ ⟨ho, hg⟩ => by
    rcases ho with ⟨p', q', hp, hq, _⟩ | ⟨_, he⟩
    · exact (h.elim (fun h => h _ hp) (fun h => h _ hq)).elim
    · exact ⟨he, hg⟩
theorem ddneg (h : Pt a p) (w : World) : Calls Try.prog 13 #[.string a] w fun e w' => ∃ t, Box (Pt t p.neg) ∧ e = .returned (.tuple #[.string t, .int .i64 0]) ∧ Gr w w' :=
  (dneg_any a w).mono fun _ _ ⟨ho, hg⟩ => by
    rcases ho with ⟨p', hp, he⟩ | ⟨hn, _⟩
    · obtain rfl : p' = p := encP_inj (hp.trans h.eq)
      exact ⟨_, ⟨⟨rfl⟩⟩, he, hg⟩
    · exact (h.num hn).elim
theorem ddneg_no (h : NoP a) (w : World) : Calls Try.prog 13 #[.string a] w fun e w' => e = .returned (.tuple #[.string ⟨#[]⟩, .int .i64 60]) ∧ Gr w w' :=
  (dneg_any a w).mono fun _ _ ⟨ho, hg⟩ => by
    rcases ho with ⟨p', hp, _⟩ | ⟨_, he⟩
    · exact (h _ hp).elim
    · exact ⟨he, hg⟩
theorem ddmul (h : Pt a p) (hk : k.size = 32) (w : World) : Calls Try.prog 25 #[.string k, .string a] w fun e w' => ∃ t, Box (Pt t (p.mul (Go.Proofs.Ytpgichfagodkpaa.num k))) ∧ e = .returned (.tuple #[.string t, .int .i64 0]) ∧ Gr w w' :=
  (dmul_any k a w).mono fun _ _ ⟨ho, hg⟩ => by
    rcases ho with ⟨p', hp, _, he⟩ | ⟨hn | hn, _⟩
    · obtain rfl : p' = p := encP_inj (hp.trans h.eq)
      exact ⟨_, ⟨⟨rfl⟩⟩, he, hg⟩
    · exact (h.num hn).elim
    · exact absurd hk hn
theorem ddmul_no (h : NoP a ∨ k.size ≠ 32) (w : World) : Calls Try.prog 25 #[.string k, .string a] w fun e w' => e = .returned (.tuple #[.string ⟨#[]⟩, .int .i64 60]) ∧ Gr w w' :=
  (dmul_any k a w).mono fun _ _ ⟨ho, hg⟩ => by
    rcases ho with ⟨p', hp, hk, _⟩ | ⟨_, he⟩
    · exact (h.elim (fun h => h _ hp) (fun h => h hk)).elim
    · exact ⟨he, hg⟩
theorem ddboth (h : Pt a p) (hk : k.size = 32) (hm : m.size = 32) (w : World) : Calls Try.prog 27 #[.string k, .string a, .string m] w fun e w' => ∃ t, Box (Pt t ((p.mul (Go.Proofs.Ytpgichfagodkpaa.num k)).add (CP.base.mul (Go.Proofs.Ytpgichfagodkpaa.num m)))) ∧ e = .returned (.tuple #[.string t, .int .i64 0]) ∧ Gr w w' :=
  (dboth_any k a m w).mono fun _ _ ⟨ho, hg⟩ => by
    rcases ho with ⟨p', hp, _, _, he⟩ | ⟨hn | hn | hn, _⟩
    · obtain rfl : p' = p := encP_inj (hp.trans h.eq)
      exact ⟨_, ⟨⟨rfl⟩⟩, he, hg⟩
    · exact (h.num hn).elim
    · exact absurd hk hn
    · exact absurd hm hn
theorem ddboth_no (h : NoP a ∨ k.size ≠ 32 ∨ m.size ≠ 32) (w : World) : Calls Try.prog 27 #[.string k, .string a, .string m] w fun e w' => e = .returned (.tuple #[.string ⟨#[]⟩, .int .i64 60]) ∧ Gr w w' :=
  (dboth_any k a m w).mono fun _ _ ⟨ho, hg⟩ => by
    rcases ho with ⟨p', hp, hk, hm, _⟩ | ⟨_, he⟩
    · exact (h.elim (fun h => h _ hp) (fun h => h.elim (fun h => h hk) (fun h => h hm))).elim
    · exact ⟨he, hg⟩
theorem ddzero (w : World) : Calls Try.prog 20 #[] w fun e w' => ∃ t, Box (Pt t CP.zero) ∧ e = .returned (.string t) ∧ Gr w w' :=
  (rZero w).mono fun _ _ ⟨he, hg⟩ => ⟨_, ⟨⟨by rw [encP_zero, ← F_one_val]⟩⟩, he, hg⟩
theorem ddbase (w : World) : Calls Try.prog 18 #[] w fun e w' => ∃ t, Box (Pt t CP.base) ∧ e = .returned (.string t) ∧ Gr w w' :=
  (rBase w).mono fun _ _ ⟨he, hg⟩ => ⟨_, ⟨⟨encP_base2.symm⟩⟩, he, hg⟩
end
end Go.Proofs.Ytpgichfagodkpaa.Fe
