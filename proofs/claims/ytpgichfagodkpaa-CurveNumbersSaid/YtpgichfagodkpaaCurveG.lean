/- The package curve: its calls. -/
import Derived.Test.YtpgichfagodkpaaCurveF
import Derived.Test.YtpgichfagodkpaaShRepeat
import Derived.Deep.MidRow
namespace Go.Proofs.Ytpgichfagodkpaa.Fe
set_option linter.unusedVariables false
open Go Go.RowKit

theorem parse_at (s : ByteArray) (w : World) : Calls Try.prog 29 #[.string s] w fun e w' => ∃ x y z t ok, e = .returned (.tuple #[.agg (pcell x y z t), .bool ok]) ∧ ((ok = true ∧ ∃ p, encP p = s ∧ PR x y z t p) ∨ (ok = false ∧ NoP s)) ∧ Gr w w' :=
  (parse_any s w).mono fun _ _ ⟨h, hg⟩ => by
    rcases h with ⟨p, x, y, z, t, he, hp, hr⟩ | ⟨he, hn⟩
    · exact ⟨x, y, z, t, true, he, .inl ⟨rfl, p, hp, hr⟩, hg⟩
    · exact ⟨f0, f0, f0, f0, false, he, .inr ⟨rfl, hn⟩, hg⟩
/-- Some cells laid into a point: its x. -/
theorem wpList_storeX {ops : Array Oper} {rest : List Oper} {o : Oper} {a : Act} {w w0 : World} {Q : Exit → Act → World → Prop} (hgd : o.guard = none) (p y : Operand) (ho : o.op = .store 41 p y)
    (g : Nat) (f x' y' z' t' : Nat → Nat) (hg : w.heap[g]? = some (.cells (pcell x' y' z' t') 43 (0, 0))) (hB : Gr w0 w) (hb : w0.heap.size ≤ g) (hx : a.eval p = .pointer (some ⟨g, 0, none⟩)) (hy : a.eval y = .agg (ecell f))
    (h : ∀ w', w'.heap[g]? = some (.cells (pcell f y' z' t') 43 (0, 0)) → Gr w0 w' → wpList Try.prog ops Q rest (a.put o.dst undef) w') : wpList Try.prog ops Q (o :: rest) a w := by
  refine wpList_store_mid hgd 41 p y ho g 0 (ecell f) hx hy (fun j hj => ?_) (by kernel_rfl) (ecell_one f) (h _ ?_ ?_)
  · have hj' : j < 5 := hj
    have hc := cell_of_row w g (0 + j) _ _ _ hg
    refine ⟨?_, frozen_of_row _ _ _ _ _ hg⟩
    rw [hc, Array.getElem?_eq_getElem (by rw [Nat.zero_add]; exact Nat.lt_of_lt_of_le hj' (by show 5 ≤ 20; decide))]; rfl
  · show (((((w.setCell ⟨g, 0, none⟩ (.int .u64 (f 0 : Nat))).setCell ⟨g, 1, none⟩ (.int .u64 (f 1 : Nat))).setCell ⟨g, 2, none⟩ (.int .u64 (f 2 : Nat))).setCell ⟨g, 3, none⟩ (.int .u64 (f 3 : Nat))).setCell ⟨g, 4, none⟩ (.int .u64 (f 4 : Nat))).heap[g]? = _
    rw [heap_setCell_same _ _ _ _ _ _ (heap_setCell_same _ _ _ _ _ _ (heap_setCell_same _ _ _ _ _ _ (heap_setCell_same _ _ _ _ _ _ (heap_setCell_same _ _ _ _ _ _ hg))))]
    rfl
  · exact ((((hB.setCell hb _).setCell hb _).setCell hb _).setCell hb _).setCell hb _
theorem PR.neg {x y z t xn : Nat → Nat} {p : CP} (h : PR x y z t p) (hv : lf xn = -lf x) (hl : Lim 2 xn) : PB xn y z p.neg :=
  ⟨hl, h.ly, h.lz, ⟨h.rep.z, by rw [hv, h.rep.x]; show -(p.x * _) = -p.x * _; grind, h.rep.y⟩⟩
theorem F_zero_val : (0 : F).val = 0 := rfl
theorem F_one_val : (1 : F).val = 1 := by have := fv_val 1; rw [one_mod] at this; rw [← this]; rfl
theorem zero_row : (⟨#[1]⟩ ++ ⟨(Lib.repeatL (⟨#[0]⟩ : ByteArray).data.toList 31).toArray⟩ : ByteArray) = encP CP.zero := by
  have e : encP CP.zero = sbytes 1 := by unfold encP; show sbytes ((1 : F).val + 2 ^ 255 * ((0 : F).val % 2)) = _; rw [F_one_val, F_zero_val]
  rw [e]; exact bytes_ext (by decide +kernel)
theorem base_row : (⟨#[88]⟩ ++ ⟨(Lib.repeatL (⟨#[102]⟩ : ByteArray).data.toList 31).toArray⟩ : ByteArray) = encP CP.base := by
  have e : encP CP.base = sbytes bY := by
    have e1 : (fv bY).val = bY := by rw [fv_val, bY_eq, fp_eq]
    have e2 : (fv bX).val % 2 = 0 := by rw [fv_val, bX_eq, fp_eq]
    unfold encP; show sbytes ((fv bY).val + 2 ^ 255 * ((fv bX).val % 2)) = _; rw [e1, e2]; rfl
  rw [e, bY_eq]; exact bytes_ext (by decide +kernel)
section
variable {P : Program} {W : World} {S : List Nat} {T : (World → Prop) → List Nat → Act → Prop} {L : List (Oper × Kd)} {F : World → Prop} {N : List Nat} {a : Act} {o : Oper}
theorem gm_make {fn : Fn} (fs : List Operand) (ho : o.op = .makeFunc fn fs.toArray #[]) (vs : List Value) (hv : fs.map a.eval = vs)
    (h : wpG P W S T L F N (a.put o.dst (.func fn vs.toArray #[]))) : wpG P W S T ((o, .flo) :: L) F N a :=
  gm_flo _ (fun w _ => by
    subst hv
    unfold execOp
    simp only [ho, Sem.run_bind, List.map_toArray, Instr.makeFunc]
    rfl) h
end
set_option maxRecDepth 100000 in
set_option maxHeartbeats 4000000 in
theorem is_any (s : ByteArray) (w : World) : Calls Try.prog 15 #[.string s] w fun e w' => ∃ ok, e = .returned (.bool ok) ∧ ((ok = true ∧ ∃ p, encP p = s) ∨ (ok = false ∧ NoP s)) ∧ Gr w w' := by
  have B0 := Box.mk (Gr.refl w)
  go_enter Try.func15, Try.ntmps15
  go_upto_region 1 with (fail)
  try go_frame
  refine wp_region_seq 6 [.flo, .cha, .flo, .flo, .flo, .new (.cells (pcell f0 f0 f0 f0) 43)] (by rfl) rfl (by decide) ?_
  simp only [List.take, List.zip, List.zipWith]
  refine gm_move (.tmp 0) (.inl rfl) (.string s) rfl ?_
  try go_frame
  refine gm_call [.string s] (by kernel_rfl) rfl rfl Stb.tt (fun w1 hw1 _ => (parse_at s w1).mono ?_)
  rintro e w2 ⟨xA, yA, zA, tA, okA, rfl, hp, hw2⟩
  refine ⟨_, rfl, hw2, ?_⟩
  try go_frame
  have OKA := Box.mk hp
  clear hp
  refine gm_move (.tmp 7) (.inl rfl) (.tuple #[.agg (pcell xA yA zA tA), .bool okA]) rfl ?_
  try go_frame
  refine gm_extract (vs := #[.agg (pcell xA yA zA tA), .bool okA]) (.tmp 5) 0 rfl rfl (.agg (pcell xA yA zA tA)) rfl ?_
  try go_frame
  refine gm_extract (vs := #[.agg (pcell xA yA zA tA), .bool okA]) (.tmp 5) 1 rfl rfl (.bool okA) rfl ?_
  try go_frame
  refine gm_alloc rfl (.cells (pcell f0 f0 f0 f0) 43) (fun _ => by kernel_rfl) (fun bA hbA _ => ?_)
  try go_frame
  refine gm_nil ?_
  intro w7 hw7 hF7
  simp only [List.drop]
  try go_frame
  have HN0 := Box.mk (show w7.heap[bA]? = some (.cells (pcell f0 f0 f0 f0) 43 (0, 0)) from hF7.2)
  obtain ⟨W1, hWn⟩ : ∃ W, W = w7.setRow bA (pcell xA yA zA tA) := ⟨_, rfl⟩
  have NBA := Box.mk (show w.heap.size ≤ bA from Nat.le_trans B0.out.size hbA)
  go_upto_region 2 with ((with_reducible refine wpList_storeP rfl (.tmp 3) (.tmp 8) rfl bA xA yA zA tA (pcell f0 f0 f0 f0) rfl HN0.out ?_ ?_ ?_); rfl; rfl)
  try go_frame
  rw [← hWn]
  have hgn : Gr w W1 := by rw [hWn]; exact hw7.setRow hbA _
  skip
  have GA := Box.mk (show W1.heap[bA]? = some (.cells (pcell xA yA zA tA) 43 (0, 0)) from by rw [hWn]; exact setRow_heap _ _ _ _ _ _ HN0.out)
  replace B0 := Box.mk (B0.out.trans hgn)
  clear hWn hgn hF7 hw7 HN0 hbA
  go_wp2_with fail
  go_ret
  exact ⟨okA, rfl, OKA.out.imp (fun ⟨h, p, hp, _⟩ => ⟨h, p, hp⟩) id, B0.out⟩
set_option maxRecDepth 100000 in
set_option maxHeartbeats 4000000 in
theorem add_any' (s r : ByteArray) (w : World) : Calls Try.prog 10 #[.string s, .string r] w fun e w' => ((∃ p q, encP p = s ∧ encP q = r ∧ e = .returned (.tuple #[.string (encP (p.add q)), .int .i64 0])) ∨ ((NoP s ∨ NoP r) ∧ e = .returned (.tuple #[.string ⟨#[]⟩, .int .i64 60]))) ∧ Gr w w' := by
  have B0 := Box.mk (Gr.refl w)
  go_enter Try.func10, Try.ntmps10
  go_upto_region 1 with (fail)
  try go_frame
  refine wp_region_seq 6 [.flo, .cha, .flo, .flo, .flo, .new (.cells (pcell f0 f0 f0 f0) 43)] (by rfl) rfl (by decide) ?_
  simp only [List.take, List.zip, List.zipWith]
  refine gm_move (.tmp 0) (.inl rfl) (.string s) rfl ?_
  try go_frame
  refine gm_call [.string s] (by kernel_rfl) rfl rfl Stb.tt (fun w1 hw1 _ => (parse_at s w1).mono ?_)
  rintro e w2 ⟨xA, yA, zA, tA, okA, rfl, hp, hw2⟩
  refine ⟨_, rfl, hw2, ?_⟩
  try go_frame
  have OKA := Box.mk hp
  clear hp
  refine gm_move (.tmp 12) (.inl rfl) (.tuple #[.agg (pcell xA yA zA tA), .bool okA]) rfl ?_
  try go_frame
  refine gm_extract (vs := #[.agg (pcell xA yA zA tA), .bool okA]) (.tmp 10) 0 rfl rfl (.agg (pcell xA yA zA tA)) rfl ?_
  try go_frame
  refine gm_extract (vs := #[.agg (pcell xA yA zA tA), .bool okA]) (.tmp 10) 1 rfl rfl (.bool okA) rfl ?_
  try go_frame
  refine gm_alloc rfl (.cells (pcell f0 f0 f0 f0) 43) (fun _ => by kernel_rfl) (fun bA hbA _ => ?_)
  try go_frame
  refine gm_nil ?_
  intro w7 hw7 hF7
  simp only [List.drop]
  try go_frame
  have HN0 := Box.mk (show w7.heap[bA]? = some (.cells (pcell f0 f0 f0 f0) 43 (0, 0)) from hF7.2)
  obtain ⟨W1, hWn⟩ : ∃ W, W = w7.setRow bA (pcell xA yA zA tA) := ⟨_, rfl⟩
  have NBA := Box.mk (show w.heap.size ≤ bA from Nat.le_trans B0.out.size hbA)
  go_upto_region 2 with ((with_reducible refine wpList_storeP rfl (.tmp 6) (.tmp 13) rfl bA xA yA zA tA (pcell f0 f0 f0 f0) rfl HN0.out ?_ ?_ ?_); rfl; rfl)
  try go_frame
  rw [← hWn]
  have hgn : Gr w W1 := by rw [hWn]; exact hw7.setRow hbA _
  skip
  have GA := Box.mk (show W1.heap[bA]? = some (.cells (pcell xA yA zA tA) 43 (0, 0)) from by rw [hWn]; exact setRow_heap _ _ _ _ _ _ HN0.out)
  replace B0 := Box.mk (B0.out.trans hgn)
  clear hWn hgn hF7 hw7 HN0 hbA
  refine wp_region_seq 6 [.flo, .cha, .flo, .flo, .flo, .new (.cells (pcell f0 f0 f0 f0) 43)] (by rfl) rfl (by decide) ?_
  simp only [List.take, List.zip, List.zipWith]
  refine gm_move (.tmp 1) (.inl rfl) (.string r) rfl ?_
  try go_frame
  refine gm_call [.string r] (by kernel_rfl) rfl rfl Stb.tt (fun w1 hw1 _ => (parse_at r w1).mono ?_)
  rintro e w2 ⟨xB, yB, zB, tB, okB, rfl, hp, hw2⟩
  refine ⟨_, rfl, hw2, ?_⟩
  try go_frame
  have OKB := Box.mk hp
  clear hp
  refine gm_move (.tmp 17) (.inl rfl) (.tuple #[.agg (pcell xB yB zB tB), .bool okB]) rfl ?_
  try go_frame
  refine gm_extract (vs := #[.agg (pcell xB yB zB tB), .bool okB]) (.tmp 15) 0 rfl rfl (.agg (pcell xB yB zB tB)) rfl ?_
  try go_frame
  refine gm_extract (vs := #[.agg (pcell xB yB zB tB), .bool okB]) (.tmp 15) 1 rfl rfl (.bool okB) rfl ?_
  try go_frame
  refine gm_alloc rfl (.cells (pcell f0 f0 f0 f0) 43) (fun _ => by kernel_rfl) (fun bB hbB _ => ?_)
  try go_frame
  refine gm_nil ?_
  intro w7 hw7 hF7
  simp only [List.drop]
  try go_frame
  have HN0 := Box.mk (show w7.heap[bB]? = some (.cells (pcell f0 f0 f0 f0) 43 (0, 0)) from hF7.2)
  obtain ⟨W2, hWn⟩ : ∃ W, W = w7.setRow bB (pcell xB yB zB tB) := ⟨_, rfl⟩
  have NBB := Box.mk (show w.heap.size ≤ bB from Nat.le_trans B0.out.size hbB)
  go_upto_region 3 with ((with_reducible refine wpList_storeP rfl (.tmp 8) (.tmp 18) rfl bB xB yB zB tB (pcell f0 f0 f0 f0) rfl HN0.out ?_ ?_ ?_); rfl; rfl)
  try go_frame
  rw [← hWn]
  have hgn : Gr W1 W2 := by rw [hWn]; exact hw7.setRow hbB _
  replace GA := Box.mk (hgn.block GA.out)
  have GB := Box.mk (show W2.heap[bB]? = some (.cells (pcell xB yB zB tB) 43 (0, 0)) from by rw [hWn]; exact setRow_heap _ _ _ _ _ _ HN0.out)
  replace B0 := Box.mk (B0.out.trans hgn)
  clear hWn hgn hF7 hw7 HN0 hbB
  rcases OKA.out with ⟨rfl, p, hp, hpr⟩ | ⟨rfl, hn⟩
  · have PA := Box.mk hpr; have HPA := Box.mk hp
    clear hp hpr OKA
    rcases OKB.out with ⟨rfl, q, hq, hqr⟩ | ⟨rfl, hn⟩
    · have PB := Box.mk hqr; have HPB := Box.mk hq
      clear hq hqr OKB
      go_upto_region 5 with (fail)
      try go_frame
      refine wp_region_seq 4 [.flo, .flo, .cha, .cha] (by rfl) rfl (by decide) ?_
      simp only [List.take, List.zip, List.zipWith]
      refine gm_loadP (.tmp 6) rfl bA xA yA zA tA GA.out rfl ?_
      try go_frame
      refine gm_loadP (.tmp 8) rfl bB xB yB zB tB GB.out rfl ?_
      try go_frame
      refine gm_call [.agg (pcell xA yA zA tA), .agg (pcell xB yB zB tB)] (by kernel_rfl) rfl rfl Stb.tt (fun w1 hw1 _ => (padd_any PA.out PB.out w1).mono ?_)
      rintro e w2 ⟨x, y, z, t, rfl, hpr, hw2⟩
      refine ⟨_, rfl, hw2, ?_⟩
      try go_frame
      have PS := Box.mk hpr
      clear hpr
      refine gm_call [.agg (pcell x y z t)] (by kernel_rfl) rfl rfl Stb.tt (fun w1 hw1 _ => (bytes_pt PS.out w1).mono ?_)
      rintro e w2 ⟨rfl, hw2⟩
      refine ⟨_, rfl, hw2, ?_⟩
      try go_frame
      refine gm_nil ?_
      intro w7 hw7 _
      simp only [List.drop]
      try go_frame
      replace B0 := Box.mk (B0.out.trans hw7)
      clear hw7
      go_wp2_with fail
      go_ret2
      exact ⟨.inl ⟨p, q, HPA.out, HPB.out, rfl⟩, B0.out⟩
    · have HN := Box.mk hn
      clear hn OKB
      go_wp2_with fail
      go_ret2
      exact ⟨.inr ⟨.inr HN.out, rfl⟩, B0.out⟩
  · have HN := Box.mk hn
    clear hn OKA
    go_wp2_with fail
    go_ret2
    exact ⟨.inr ⟨.inl HN.out, rfl⟩, B0.out⟩
set_option maxRecDepth 100000 in
set_option maxHeartbeats 4000000 in
theorem neg_any' (s : ByteArray) (w : World) : Calls Try.prog 12 #[.string s] w fun e w' => ((∃ p, encP p = s ∧ e = .returned (.tuple #[.string (encP p.neg), .int .i64 0])) ∨ (NoP s ∧ e = .returned (.tuple #[.string ⟨#[]⟩, .int .i64 60]))) ∧ Gr w w' := by
  have B0 := Box.mk (Gr.refl w)
  go_enter Try.func12, Try.ntmps12
  go_upto_region 1 with (fail)
  try go_frame
  refine wp_region_seq 6 [.flo, .cha, .flo, .flo, .flo, .new (.cells (pcell f0 f0 f0 f0) 43)] (by rfl) rfl (by decide) ?_
  simp only [List.take, List.zip, List.zipWith]
  refine gm_move (.tmp 0) (.inl rfl) (.string s) rfl ?_
  try go_frame
  refine gm_call [.string s] (by kernel_rfl) rfl rfl Stb.tt (fun w1 hw1 _ => (parse_at s w1).mono ?_)
  rintro e w2 ⟨xA, yA, zA, tA, okA, rfl, hp, hw2⟩
  refine ⟨_, rfl, hw2, ?_⟩
  try go_frame
  have OKA := Box.mk hp
  clear hp
  refine gm_move (.tmp 8) (.inl rfl) (.tuple #[.agg (pcell xA yA zA tA), .bool okA]) rfl ?_
  try go_frame
  refine gm_extract (vs := #[.agg (pcell xA yA zA tA), .bool okA]) (.tmp 6) 0 rfl rfl (.agg (pcell xA yA zA tA)) rfl ?_
  try go_frame
  refine gm_extract (vs := #[.agg (pcell xA yA zA tA), .bool okA]) (.tmp 6) 1 rfl rfl (.bool okA) rfl ?_
  try go_frame
  refine gm_alloc rfl (.cells (pcell f0 f0 f0 f0) 43) (fun _ => by kernel_rfl) (fun bA hbA _ => ?_)
  try go_frame
  refine gm_nil ?_
  intro w7 hw7 hF7
  simp only [List.drop]
  try go_frame
  have HN0 := Box.mk (show w7.heap[bA]? = some (.cells (pcell f0 f0 f0 f0) 43 (0, 0)) from hF7.2)
  obtain ⟨W1, hWn⟩ : ∃ W, W = w7.setRow bA (pcell xA yA zA tA) := ⟨_, rfl⟩
  have NBA := Box.mk (show w.heap.size ≤ bA from Nat.le_trans B0.out.size hbA)
  go_upto_region 2 with ((with_reducible refine wpList_storeP rfl (.tmp 4) (.tmp 9) rfl bA xA yA zA tA (pcell f0 f0 f0 f0) rfl HN0.out ?_ ?_ ?_); rfl; rfl)
  try go_frame
  rw [← hWn]
  have hgn : Gr w W1 := by rw [hWn]; exact hw7.setRow hbA _
  skip
  have GA := Box.mk (show W1.heap[bA]? = some (.cells (pcell xA yA zA tA) 43 (0, 0)) from by rw [hWn]; exact setRow_heap _ _ _ _ _ _ HN0.out)
  replace B0 := Box.mk (B0.out.trans hgn)
  clear hWn hgn hF7 hw7 HN0 hbA
  rcases OKA.out with ⟨rfl, p, hp, hpr⟩ | ⟨rfl, hn⟩
  · have PA := Box.mk hpr; have HPA := Box.mk hp
    clear hp hpr OKA
    go_upto_region 4 with (fail)
    try go_frame
    refine wp_region_seq 4 [.flo, .flo, .cha, .flo] (by rfl) rfl (by decide) ?_
    simp only [List.take, List.zip, List.zipWith]
    refine gm_field 0 0 (.tmp 4) rfl bA rfl (field0 bA) ?_
    try go_frame
    refine gm_loadF (.tmp 13) rfl bA 0 xA (pcell xA yA zA tA) GA.out (sub_x _ _ _ _) rfl ?_
    try go_frame
    refine gm_call [.agg (ecell xA)] (by kernel_rfl) rfl rfl Stb.tt (fun w1 hw1 _ => (neg_any xA PA.out.lx w1).mono ?_)
    rintro e w2 ⟨xn, rfl, hl, hv, hw2⟩
    refine ⟨_, rfl, Gr.of hw2, ?_⟩
    try go_frame
    have LN := Box.mk hl; have VN := Box.mk (lf_neg hv)
    clear hl hv
    refine gm_field 0 0 (.tmp 4) rfl bA rfl (field0 bA) ?_
    try go_frame
    refine gm_nil ?_
    intro w7 hw7 _
    simp only [List.drop]
    try go_frame
    replace GA := Box.mk (hw7.block GA.out); replace B0 := Box.mk (B0.out.trans hw7)
    clear hw7
    go_upto_region 5 with ((with_reducible refine wpList_storeX rfl (.tmp 16) (.tmp 15) rfl bA xn xA yA zA tA GA.out B0.out NBA.out ?_ ?_ ?_); rfl; rfl; intro w8 hw8 hb8)
    try go_frame
    replace GA := Box.mk hw8; replace B0 := Box.mk hb8
    clear hw8 hb8
    refine wp_region_seq 2 [.flo, .cha] (by rfl) rfl (by decide) ?_
    simp only [List.take, List.zip, List.zipWith]
    refine gm_loadP (.tmp 4) rfl bA xn yA zA tA GA.out rfl ?_
    try go_frame
    refine gm_call [.agg (pcell xn yA zA tA)] (by kernel_rfl) rfl rfl Stb.tt (fun w1 hw1 _ => (bytes_pr (PA.out.neg VN.out LN.out) w1).mono ?_)
    rintro e w2 ⟨rfl, hw2⟩
    refine ⟨_, rfl, hw2, ?_⟩
    try go_frame
    refine gm_nil ?_
    intro w7 hw7 _
    simp only [List.drop]
    try go_frame
    replace B0 := Box.mk (B0.out.trans hw7)
    clear hw7
    go_wp2_with fail
    go_ret2
    exact ⟨.inl ⟨p, HPA.out, rfl⟩, B0.out⟩
  · have HN := Box.mk hn
    clear hn OKA
    go_wp2_with fail
    go_ret2
    exact ⟨.inr ⟨HN.out, rfl⟩, B0.out⟩
set_option maxRecDepth 100000 in
set_option maxHeartbeats 4000000 in
theorem zero_at (w : World) : Calls Try.prog 19 #[] w fun e w' => e = .returned (.string (encP CP.zero)) ∧ Gr w w' := by
  have B0 := Box.mk (Gr.refl w)
  go_enter Try.func19, Try.ntmps19
  go_upto_region 1 with (fail)
  try go_frame
  refine wp_region_seq 2 [.cha, .flo] (by rfl) rfl (by decide) ?_
  simp only [List.take, List.zip, List.zipWith]
  refine gm_call [.string ⟨#[0]⟩, .int .i64 31] (by kernel_rfl) rfl rfl Stb.tt (fun w1 hw1 _ => ((fun v => Try.strings_Repeat ⟨#[0]⟩ 31 v (by omega) (by decide)) w1).mono ?_)
  rintro e w2 ⟨rfl, hw2⟩
  refine ⟨_, rfl, Gr.of hw2, ?_⟩
  try go_frame
  refine gm_bin (.const (.string ⟨#[1]⟩)) (.tmp 1) rfl (.string (encP CP.zero)) (fun _ _ => rfl) (fun w' => ?_) ?_
  · rw [← zero_row]; exact run_string_add_sum _ ⟨#[1]⟩ ⟨(Lib.repeatL (⟨#[0]⟩ : ByteArray).data.toList 31).toArray⟩ (by decide)
  try go_frame
  refine gm_nil ?_
  intro w7 hw7 _
  simp only [List.drop]
  try go_frame
  replace B0 := Box.mk (B0.out.trans hw7)
  clear hw7
  go_wp2_with fail
  go_ret
  exact ⟨rfl, B0.out⟩
set_option maxRecDepth 100000 in
set_option maxHeartbeats 4000000 in
theorem base_at (w : World) : Calls Try.prog 17 #[] w fun e w' => e = .returned (.string (encP CP.base)) ∧ Gr w w' := by
  have B0 := Box.mk (Gr.refl w)
  go_enter Try.func17, Try.ntmps17
  go_upto_region 1 with (fail)
  try go_frame
  refine wp_region_seq 2 [.cha, .flo] (by rfl) rfl (by decide) ?_
  simp only [List.take, List.zip, List.zipWith]
  refine gm_call [.string ⟨#[102]⟩, .int .i64 31] (by kernel_rfl) rfl rfl Stb.tt (fun w1 hw1 _ => ((fun v => Try.strings_Repeat ⟨#[102]⟩ 31 v (by omega) (by decide)) w1).mono ?_)
  rintro e w2 ⟨rfl, hw2⟩
  refine ⟨_, rfl, Gr.of hw2, ?_⟩
  try go_frame
  refine gm_bin (.const (.string ⟨#[88]⟩)) (.tmp 1) rfl (.string (encP CP.base)) (fun _ _ => rfl) (fun w' => ?_) ?_
  · rw [← base_row]; exact run_string_add_sum _ ⟨#[88]⟩ ⟨(Lib.repeatL (⟨#[102]⟩ : ByteArray).data.toList 31).toArray⟩ (by decide)
  try go_frame
  refine gm_nil ?_
  intro w7 hw7 _
  simp only [List.drop]
  try go_frame
  replace B0 := Box.mk (B0.out.trans hw7)
  clear hw7
  go_wp2_with fail
  go_ret
  exact ⟨rfl, B0.out⟩
set_option maxRecDepth 100000 in
set_option maxHeartbeats 4000000 in
theorem mul_any' (k s : ByteArray) (w : World) : Calls Try.prog 22 #[.string k, .string s] w fun e w' => ((∃ p, encP p = s ∧ k.size = 32 ∧ e = .returned (.tuple #[.string (encP (p.mul (num k))), .int .i64 0])) ∨ ((NoP s ∨ k.size ≠ 32) ∧ e = .returned (.tuple #[.string ⟨#[]⟩, .int .i64 60]))) ∧ Gr w w' := by
  have B0 := Box.mk (Gr.refl w)
  go_enter Try.func22, Try.ntmps22
  go_upto_region 1 with (fail)
  try go_frame
  refine wp_region_seq 6 [.flo, .cha, .flo, .flo, .flo, .new (.cells (pcell f0 f0 f0 f0) 43)] (by rfl) rfl (by decide) ?_
  simp only [List.take, List.zip, List.zipWith]
  refine gm_move (.tmp 1) (.inl rfl) (.string s) rfl ?_
  try go_frame
  refine gm_call [.string s] (by kernel_rfl) rfl rfl Stb.tt (fun w1 hw1 _ => (parse_at s w1).mono ?_)
  rintro e w2 ⟨xA, yA, zA, tA, okA, rfl, hp, hw2⟩
  refine ⟨_, rfl, hw2, ?_⟩
  try go_frame
  have OKA := Box.mk hp
  clear hp
  refine gm_move (.tmp 10) (.inl rfl) (.tuple #[.agg (pcell xA yA zA tA), .bool okA]) rfl ?_
  try go_frame
  refine gm_extract (vs := #[.agg (pcell xA yA zA tA), .bool okA]) (.tmp 8) 0 rfl rfl (.agg (pcell xA yA zA tA)) rfl ?_
  try go_frame
  refine gm_extract (vs := #[.agg (pcell xA yA zA tA), .bool okA]) (.tmp 8) 1 rfl rfl (.bool okA) rfl ?_
  try go_frame
  refine gm_alloc rfl (.cells (pcell f0 f0 f0 f0) 43) (fun _ => by kernel_rfl) (fun bA hbA _ => ?_)
  try go_frame
  refine gm_nil ?_
  intro w7 hw7 hF7
  simp only [List.drop]
  try go_frame
  have HN0 := Box.mk (show w7.heap[bA]? = some (.cells (pcell f0 f0 f0 f0) 43 (0, 0)) from hF7.2)
  obtain ⟨W1, hWn⟩ : ∃ W, W = w7.setRow bA (pcell xA yA zA tA) := ⟨_, rfl⟩
  have NBA := Box.mk (show w.heap.size ≤ bA from Nat.le_trans B0.out.size hbA)
  go_upto_region 2 with ((with_reducible refine wpList_storeP rfl (.tmp 6) (.tmp 11) rfl bA xA yA zA tA (pcell f0 f0 f0 f0) rfl HN0.out ?_ ?_ ?_); rfl; rfl)
  try go_frame
  rw [← hWn]
  have hgn : Gr w W1 := by rw [hWn]; exact hw7.setRow hbA _
  skip
  have GA := Box.mk (show W1.heap[bA]? = some (.cells (pcell xA yA zA tA) 43 (0, 0)) from by rw [hWn]; exact setRow_heap _ _ _ _ _ _ HN0.out)
  replace B0 := Box.mk (B0.out.trans hgn)
  clear hWn hgn hF7 hw7 HN0 hbA
  rcases OKA.out with ⟨rfl, p, hp, hpr⟩ | ⟨rfl, hn⟩
  · have PA := Box.mk hpr; have HPA := Box.mk hp
    clear hp hpr OKA
    by_cases hk : k.size = 32
    · have hkI : (k.size : Int) = 32 := by omega
      have HK := Box.mk hk
      clear hk
      go_upto_region 4 with (fail)
      try go_frame
      refine wp_region_mix 6 [.flo, .cha, .flo, .flo, .cha, .cha] (by kernel_rfl) (by kernel_rfl) rfl ?_
      simp only [List.take, List.zip, List.zipWith]
      refine gm_move (.tmp 0) (.inl rfl) (.string k) rfl ?_
      try go_frame
      refine gm_call [] (by kernel_rfl) rfl rfl Stb.tt (fun w1 hw1 _ => (zero_any w1).mono ?_)
      rintro e w2 ⟨rfl, hw2⟩
      refine ⟨_, rfl, hw2, ?_⟩
      try go_frame
      refine gm_make [.tmp 21] rfl [.agg (pcell f0 (smF 1) (smF 1) f0)] rfl ?_
      try go_frame
      refine gm_loadP (.tmp 6) rfl bA xA yA zA tA GA.out rfl ?_
      try go_frame
      refine gm_call [.string k, .func (.func 30) #[.agg (pcell f0 (smF 1) (smF 1) f0)] #[], .agg (pcell xA yA zA tA)] (by kernel_rfl) rfl rfl Stb.tt (fun w1 hw1 _ => (times_pt PR.zero PA.out k HK.out w1).mono ?_)
      rintro e w2 ⟨x, y, z, t, rfl, hpr, hw2⟩
      refine ⟨_, rfl, hw2, ?_⟩
      try go_frame
      have PS := Box.mk (show PR x y z t (p.mul (num k)) from by rwa [CP.zero_add] at hpr)
      clear hpr
      refine gm_call [.agg (pcell x y z t)] (by kernel_rfl) rfl rfl Stb.tt (fun w1 hw1 _ => (bytes_pt PS.out w1).mono ?_)
      rintro e w2 ⟨rfl, hw2⟩
      refine ⟨_, rfl, hw2, ?_⟩
      try go_frame
      refine gm_nil ?_
      intro w7 hw7 _
      simp only [List.drop]
      try go_frame
      replace B0 := Box.mk (B0.out.trans (Gr.trans (show Gr W1 W1.drew from (Below.refl _ _).drew) hw7))
      clear hw7 hkI
      go_wp2_with fail
      go_ret2
      exact ⟨.inl ⟨p, HPA.out, HK.out, rfl⟩, B0.out⟩
    · have hk' : ((k.size : Int) == 32) = false := by rw [beq_eq_false_iff_ne]; omega
      have HK := Box.mk hk
      clear hk
      go_wp2_with fail
      go_ret2
      exact ⟨.inr ⟨.inr HK.out, rfl⟩, B0.out⟩
  · have HN := Box.mk hn
    clear hn OKA
    go_wp2_with fail
    go_ret2
    exact ⟨.inr ⟨.inl HN.out, rfl⟩, B0.out⟩
set_option maxRecDepth 100000 in
set_option maxHeartbeats 4000000 in
theorem both_any' (k s m : ByteArray) (w : World) : Calls Try.prog 26 #[.string k, .string s, .string m] w fun e w' => ((∃ p, encP p = s ∧ k.size = 32 ∧ m.size = 32 ∧ e = .returned (.tuple #[.string (encP ((p.mul (num k)).add (CP.base.mul (num m)))), .int .i64 0])) ∨ ((NoP s ∨ k.size ≠ 32 ∨ m.size ≠ 32) ∧ e = .returned (.tuple #[.string ⟨#[]⟩, .int .i64 60]))) ∧ Gr w w' := by
  have B0 := Box.mk (Gr.refl w)
  go_enter Try.func26, Try.ntmps26
  go_upto_region 1 with (fail)
  try go_frame
  refine wp_region_seq 6 [.flo, .cha, .flo, .flo, .flo, .new (.cells (pcell f0 f0 f0 f0) 43)] (by rfl) rfl (by decide) ?_
  simp only [List.take, List.zip, List.zipWith]
  refine gm_move (.tmp 1) (.inl rfl) (.string s) rfl ?_
  try go_frame
  refine gm_call [.string s] (by kernel_rfl) rfl rfl Stb.tt (fun w1 hw1 _ => (parse_at s w1).mono ?_)
  rintro e w2 ⟨xA, yA, zA, tA, okA, rfl, hp, hw2⟩
  refine ⟨_, rfl, hw2, ?_⟩
  try go_frame
  have OKA := Box.mk hp
  clear hp
  refine gm_move (.tmp 15) (.inl rfl) (.tuple #[.agg (pcell xA yA zA tA), .bool okA]) rfl ?_
  try go_frame
  refine gm_extract (vs := #[.agg (pcell xA yA zA tA), .bool okA]) (.tmp 13) 0 rfl rfl (.agg (pcell xA yA zA tA)) rfl ?_
  try go_frame
  refine gm_extract (vs := #[.agg (pcell xA yA zA tA), .bool okA]) (.tmp 13) 1 rfl rfl (.bool okA) rfl ?_
  try go_frame
  refine gm_alloc rfl (.cells (pcell f0 f0 f0 f0) 43) (fun _ => by kernel_rfl) (fun bA hbA _ => ?_)
  try go_frame
  refine gm_nil ?_
  intro w7 hw7 hF7
  simp only [List.drop]
  try go_frame
  have HN0 := Box.mk (show w7.heap[bA]? = some (.cells (pcell f0 f0 f0 f0) 43 (0, 0)) from hF7.2)
  obtain ⟨W1, hWn⟩ : ∃ W, W = w7.setRow bA (pcell xA yA zA tA) := ⟨_, rfl⟩
  have NBA := Box.mk (show w.heap.size ≤ bA from Nat.le_trans B0.out.size hbA)
  go_upto_region 2 with ((with_reducible refine wpList_storeP rfl (.tmp 8) (.tmp 16) rfl bA xA yA zA tA (pcell f0 f0 f0 f0) rfl HN0.out ?_ ?_ ?_); rfl; rfl)
  try go_frame
  rw [← hWn]
  have hgn : Gr w W1 := by rw [hWn]; exact hw7.setRow hbA _
  skip
  have GA := Box.mk (show W1.heap[bA]? = some (.cells (pcell xA yA zA tA) 43 (0, 0)) from by rw [hWn]; exact setRow_heap _ _ _ _ _ _ HN0.out)
  replace B0 := Box.mk (B0.out.trans hgn)
  clear hWn hgn hF7 hw7 HN0 hbA
  rcases OKA.out with ⟨rfl, p, hp, hpr⟩ | ⟨rfl, hn⟩
  · have PA := Box.mk hpr; have HPA := Box.mk hp
    clear hp hpr OKA
    by_cases hk : k.size = 32
    · have hkI : (k.size : Int) = 32 := by omega
      have HK := Box.mk hk
      clear hk
      by_cases hm : m.size = 32
      · have hmI : (m.size : Int) = 32 := by omega
        have HM := Box.mk hm
        clear hm
        go_upto_region 4 with (fail)
        try go_frame
        obtain ⟨bs, hbs⟩ : ∃ b, b = encP CP.base := ⟨_, rfl⟩
        have hbase := base_at
        rw [← hbs] at hbase
        have HBS := Box.mk hbs
        clear hbs
        refine wp_region_seq 6 [.cha, .cha, .flo, .flo, .flo, .new (.cells (pcell f0 f0 f0 f0) 43)] (by rfl) rfl (by decide) ?_
        simp only [List.take, List.zip, List.zipWith]
        refine gm_call [] (by kernel_rfl) rfl rfl Stb.tt (fun w1 hw1 _ => (hbase w1).mono ?_)
        rintro e w2 ⟨rfl, hw2⟩
        refine ⟨_, rfl, hw2, ?_⟩
        try go_frame
        refine gm_call [.string bs] (by kernel_rfl) rfl rfl Stb.tt (fun w1 hw1 _ => (parse_at bs w1).mono ?_)
        rintro e w2 ⟨xB, yB, zB, tB, okB, rfl, hp, hw2⟩
        refine ⟨_, rfl, hw2, ?_⟩
        try go_frame
        have OKB := Box.mk hp
        clear hp
        refine gm_move (.tmp 32) (.inl rfl) (.tuple #[.agg (pcell xB yB zB tB), .bool okB]) rfl ?_
        try go_frame
        refine gm_extract (vs := #[.agg (pcell xB yB zB tB), .bool okB]) (.tmp 30) 0 rfl rfl (.agg (pcell xB yB zB tB)) rfl ?_
        try go_frame
        refine gm_extract (vs := #[.agg (pcell xB yB zB tB), .bool okB]) (.tmp 30) 1 rfl rfl (.bool okB) rfl ?_
        try go_frame
        refine gm_alloc rfl (.cells (pcell f0 f0 f0 f0) 43) (fun _ => by kernel_rfl) (fun bB hbB _ => ?_)
        try go_frame
        refine gm_nil ?_
        intro w7 hw7 hF7
        simp only [List.drop]
        try go_frame
        have HN0 := Box.mk (show w7.heap[bB]? = some (.cells (pcell f0 f0 f0 f0) 43 (0, 0)) from hF7.2)
        obtain ⟨W2, hWn⟩ : ∃ W, W = w7.setRow bB (pcell xB yB zB tB) := ⟨_, rfl⟩
        have NBB := Box.mk (show w.heap.size ≤ bB from Nat.le_trans B0.out.size hbB)
        go_upto_region 5 with ((with_reducible refine wpList_storeP rfl (.tmp 10) (.tmp 33) rfl bB xB yB zB tB (pcell f0 f0 f0 f0) rfl HN0.out ?_ ?_ ?_); rfl; rfl)
        try go_frame
        rw [← hWn]
        have hgn : Gr W1 W2 := by rw [hWn]; exact hw7.setRow hbB _
        replace GA := Box.mk (hgn.block GA.out)
        have GB := Box.mk (show W2.heap[bB]? = some (.cells (pcell xB yB zB tB) 43 (0, 0)) from by rw [hWn]; exact setRow_heap _ _ _ _ _ _ HN0.out)
        replace B0 := Box.mk (B0.out.trans hgn)
        clear hWn hgn hF7 hw7 HN0 hbB
        obtain ⟨rfl, q, hq, hqr⟩ := OKB.out.resolve_right (fun h => h.2 _ HBS.out.symm)
        obtain rfl : q = CP.base := encP_inj (hq.trans HBS.out)
        have PQ := Box.mk hqr
        clear hq hqr OKB hbase
        refine wp_region_mix 6 [.flo, .cha, .flo, .flo, .cha, .new (.cells (pcell f0 f0 f0 f0) 43)] (by kernel_rfl) (by kernel_rfl) rfl ?_
        simp only [List.take, List.zip, List.zipWith]
        refine gm_move (.tmp 0) (.inl rfl) (.string k) rfl ?_
        try go_frame
        refine gm_call [] (by kernel_rfl) rfl rfl Stb.tt (fun w1 hw1 _ => (zero_any w1).mono ?_)
        rintro e w2 ⟨rfl, hw2⟩
        refine ⟨_, rfl, hw2, ?_⟩
        try go_frame
        refine gm_make [.tmp 36] rfl [.agg (pcell f0 (smF 1) (smF 1) f0)] rfl ?_
        try go_frame
        refine gm_loadP (.tmp 8) rfl bA xA yA zA tA GA.out rfl ?_
        try go_frame
        refine gm_call [.string k, .func (.func 30) #[.agg (pcell f0 (smF 1) (smF 1) f0)] #[], .agg (pcell xA yA zA tA)] (by kernel_rfl) rfl rfl Stb.tt (fun w1 hw1 _ => (times_pt PR.zero PA.out k HK.out w1).mono ?_)
        rintro e w2 ⟨x, y, z, t, rfl, hpr, hw2⟩
        refine ⟨_, rfl, hw2, ?_⟩
        try go_frame
        have PS := Box.mk (show PR x y z t (p.mul (num k)) from by rwa [CP.zero_add] at hpr)
        clear hpr
        refine gm_alloc rfl (.cells (pcell f0 f0 f0 f0) 43) (fun _ => by kernel_rfl) (fun bC hbC _ => ?_)
        try go_frame
        refine gm_nil ?_
        intro w7 hw7 hF7
        simp only [List.drop]
        try go_frame
        have HN0 := Box.mk (show w7.heap[bC]? = some (.cells (pcell f0 f0 f0 f0) 43 (0, 0)) from hF7.2)
        obtain ⟨W3, hWn⟩ : ∃ W, W = w7.setRow bC (pcell x y z t) := ⟨_, rfl⟩
        go_upto_region 6 with ((with_reducible refine wpList_storeP rfl (.tmp 12) (.tmp 39) rfl bC x y z t (pcell f0 f0 f0 f0) rfl HN0.out ?_ ?_ ?_); rfl; rfl)
        try go_frame
        rw [← hWn]
        have hgn : Gr W2 W3 := by rw [hWn]; exact Gr.trans (show Gr W2 W2.drew from (Below.refl _ _).drew) (hw7.setRow hbC _)
        replace GB := Box.mk (hgn.block GB.out)
        have GC := Box.mk (show W3.heap[bC]? = some (.cells (pcell x y z t) 43 (0, 0)) from by rw [hWn]; exact setRow_heap _ _ _ _ _ _ HN0.out)
        replace B0 := Box.mk (B0.out.trans hgn)
        clear hWn hgn hF7 hw7 HN0 hbC
        refine wp_region_seq 6 [.flo, .flo, .flo, .flo, .cha, .cha] (by rfl) rfl (by decide) ?_
        simp only [List.take, List.zip, List.zipWith]
        refine gm_move (.tmp 2) (.inl rfl) (.string m) rfl ?_
        try go_frame
        refine gm_loadP (.tmp 12) rfl bC x y z t GC.out rfl ?_
        try go_frame
        refine gm_make [.tmp 41] rfl [.agg (pcell x y z t)] rfl ?_
        try go_frame
        refine gm_loadP (.tmp 10) rfl bB xB yB zB tB GB.out rfl ?_
        try go_frame
        refine gm_call [.string m, .func (.func 30) #[.agg (pcell x y z t)] #[], .agg (pcell xB yB zB tB)] (by kernel_rfl) rfl rfl Stb.tt (fun w1 hw1 _ => (times_pt PS.out PQ.out m HM.out w1).mono ?_)
        rintro e w2 ⟨x', y', z', t', rfl, hpr, hw2⟩
        refine ⟨_, rfl, hw2, ?_⟩
        try go_frame
        have PT := Box.mk hpr
        clear hpr
        refine gm_call [.agg (pcell x' y' z' t')] (by kernel_rfl) rfl rfl Stb.tt (fun w1 hw1 _ => (bytes_pt PT.out w1).mono ?_)
        rintro e w2 ⟨rfl, hw2⟩
        refine ⟨_, rfl, hw2, ?_⟩
        try go_frame
        refine gm_nil ?_
        intro w7 hw7 _
        simp only [List.drop]
        try go_frame
        replace B0 := Box.mk (B0.out.trans hw7)
        clear hw7 hkI hmI
        go_wp2_with fail
        go_ret2
        exact ⟨.inl ⟨p, HPA.out, HK.out, HM.out, rfl⟩, B0.out⟩
      · have hm' : ((m.size : Int) == 32) = false := by rw [beq_eq_false_iff_ne]; omega
        have HM := Box.mk hm
        clear hm
        go_wp2_with fail
        go_ret2
        exact ⟨.inr ⟨.inr (.inr HM.out), rfl⟩, B0.out⟩
    · have hk' : ((k.size : Int) == 32) = false := by rw [beq_eq_false_iff_ne]; omega
      have HK := Box.mk hk
      clear hk
      go_wp2_with fail
      go_ret2
      exact ⟨.inr ⟨.inr (.inl HK.out), rfl⟩, B0.out⟩
  · have HN := Box.mk hn
    clear hn OKA
    go_wp2_with fail
    go_ret2
    exact ⟨.inr ⟨.inl HN.out, rfl⟩, B0.out⟩
end Go.Proofs.Ytpgichfagodkpaa.Fe
