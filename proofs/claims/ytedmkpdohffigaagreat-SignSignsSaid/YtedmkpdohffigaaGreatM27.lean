/- strings.Repeat, by the library's contract. The package curve: its calls. The package curve: strings as points; the law's fixed calls. The order of the base is prime. The curve, plainly: how many points there are at most; each of them eight times, and that as many times as the order, is the zero. The document's answer on scalars: digits of base 256; L; less. -/
import Derived.Shelf.Strings.Repeat
import Derived.Test.YtedmkpdohffigaaGreatProg
import Derived.Test.YtedmkpdohffigaaGreatM26
import Derived.Deep.MidRow
import Derived.Test.YtedmkpdohffigaaGreatM21
import Derived.Test.YtedmkpdohffigaaGreatM25
import Derived.Test.YtedmkpdohffigaaGreatM08
import Derived.Test.YtedmkpdohffigaaGreatRows
namespace Go.Proofs
set_option linter.unusedVariables false
open Go.Shelf
def Tryz.lays105_ren : Go.Shelf.Ren := ⟨fun | 105 => 37 | 212 => 70 | 99 => 71 | 165 => 72 | 166 => 73 | 170 => 74 | 169 => 75 | 263 => 104 | 264 => 51 | 206 => 105 | 240 => 106 | 241 => 107 | 276 => 124 | 277 => 125 | n => n, fun | 9 => 9 | 3 => 3 | 4 => 4 | 20 => 20 | 0 => 0 | 46 => 86 | 109 => 87 | 5 => 5 | 72 => 91 | 76 => 95 | 51 => 110 | 146 => 127 | 53 => 39 | 148 => 69 | 70 => 89 | 37 => 38 | 75 => 94 | 127 => 129 | 164 => 148 | 80 => 32 | n => n, fun | n => n⟩
theorem Tryz.lays105 : Go.Proofs.Lays.n105 Tryz.prog Tryz.lays105_ren := {
  mixed := by kernel_rfl
  f99 := Tryz.func71.trans (congrArg some (by kernel_rfl))
  f105 := Tryz.func37.trans (congrArg some (by kernel_rfl))
  f165 := Tryz.func72.trans (congrArg some (by kernel_rfl))
  f166 := Tryz.func73.trans (congrArg some (by kernel_rfl))
  f169 := Tryz.func75.trans (congrArg some (by kernel_rfl))
  f170 := Tryz.func74.trans (congrArg some (by kernel_rfl))
  f206 := Tryz.func105.trans (congrArg some (by kernel_rfl))
  f212 := Tryz.func70.trans (congrArg some (by kernel_rfl))
  f240 := Tryz.func106.trans (congrArg some (by kernel_rfl))
  f241 := Tryz.func107.trans (congrArg some (by kernel_rfl))
  f263 := Tryz.func104.trans (congrArg some (by kernel_rfl))
  f264 := Tryz.func51.trans (congrArg some (by kernel_rfl))
  f276 := Tryz.func124.trans (congrArg some (by kernel_rfl))
  f277 := Tryz.func125.trans (congrArg some (by kernel_rfl))
  t0 := Tryz.underlying0
  a0 := Tryz.isAgg0
  z0 := Tryz.sizeOf0
  v0 := Tryz.zeroValue0
  t3 := Tryz.underlying3
  a3 := Tryz.isAgg3
  z3 := Tryz.sizeOf3
  v3 := Tryz.zeroValue3
  t4 := Tryz.underlying4
  a4 := Tryz.isAgg4
  z4 := Tryz.sizeOf4
  v4 := Tryz.zeroValue4
  t5 := Tryz.underlying5
  a5 := Tryz.isAgg5
  z5 := Tryz.sizeOf5
  v5 := Tryz.zeroValue5
  t9 := Tryz.underlying9
  a9 := Tryz.isAgg9
  z9 := Tryz.sizeOf9
  v9 := Tryz.zeroValue9
  t20 := Tryz.underlying20
  a20 := Tryz.isAgg20
  z20 := Tryz.sizeOf20
  v20 := Tryz.zeroValue20
  t37 := Tryz.underlying38
  a37 := Tryz.isAgg38
  z37 := Tryz.sizeOf38
  v37 := Tryz.zeroValue38
  t46 := Tryz.underlying86
  a46 := Tryz.isAgg86
  z46 := Tryz.sizeOf86
  v46 := Tryz.zeroValue86
  t51 := Tryz.underlying110
  a51 := Tryz.isAgg110
  z51 := Tryz.sizeOf110
  v51 := Tryz.zeroValue110
  t53 := Tryz.underlying39
  a53 := Tryz.isAgg39
  z53 := Tryz.sizeOf39
  v53 := Tryz.zeroValue39
  t70 := Tryz.underlying89
  a70 := Tryz.isAgg89
  z70 := Tryz.sizeOf89
  v70 := Tryz.zeroValue89
  t72 := Tryz.underlying91
  a72 := Tryz.isAgg91
  z72 := Tryz.sizeOf91
  v72 := Tryz.zeroValue91
  t75 := Tryz.underlying94
  a75 := Tryz.isAgg94
  z75 := Tryz.sizeOf94
  v75 := Tryz.zeroValue94
  t76 := Tryz.underlying95
  a76 := Tryz.isAgg95
  z76 := Tryz.sizeOf95
  v76 := Tryz.zeroValue95
  t109 := Tryz.underlying87
  a109 := Tryz.isAgg87
  z109 := Tryz.sizeOf87
  v109 := Tryz.zeroValue87
  t127 := Tryz.underlying129
  a127 := Tryz.isAgg129
  z127 := Tryz.sizeOf129
  v127 := Tryz.zeroValue129
  t146 := Tryz.underlying127
  a146 := Tryz.isAgg127
  z146 := Tryz.sizeOf127
  v146 := Tryz.zeroValue127
  t148 := Tryz.underlying69
  a148 := Tryz.isAgg69
  z148 := Tryz.sizeOf69
  v148 := Tryz.zeroValue69
  t164 := Tryz.underlying148
  a164 := Tryz.isAgg148
  z164 := Tryz.sizeOf148
  v164 := Tryz.zeroValue148 }
theorem Tryz.Builder_Extra_105 : Builder.Extra Tryz.prog Tryz.lays105_ren := {
  sizeBuilder := by kernel_rfl
  liesBuilder := by kernel_rfl
  t5 := Tryz.underlying5
  a5 := Tryz.isAgg5
  z5 := Tryz.sizeOf5
  v5 := Tryz.zeroValue5
  infoByte := by kernel_rfl
  cellsByte := by kernel_rfl
  sizeByte := by kernel_rfl
  neB5 := by decide }
open Go.RowKit Go.Lib in
theorem Tryz.strings_Repeat_main (s : ByteArray) (c : Nat) (w : World) (hc2 : 2 ≤ c) (hc : c ≤ 9223372036854775807) (hlen : s.size * c ≤ 140737488355328) (h0 : 0 < s.size) :
    Calls Tryz.prog 37 #[.string s, .int .i64 c] w fun e w' => e = .returned (.string ⟨(Lib.repeatL s.data.toList c).toArray⟩) ∧ Below w.heap.size w w' := Any.strings_Repeat_main Tryz.lays105 Tryz.Builder_Extra_105 s c w hc2 hc hlen h0
open Go.RowKit Go.Lib in
theorem Tryz.strings_Repeat_zero (s : ByteArray) (w : World) :
    Calls Tryz.prog 37 #[.string s, .int .i64 0] w fun e w' => e = .returned (.string ⟨#[]⟩) ∧ w' = w := Any.strings_Repeat_zero Tryz.lays105 s w
open Go.RowKit Go.Lib in
theorem Tryz.strings_Repeat_one (s : ByteArray) (w : World) :
    Calls Tryz.prog 37 #[.string s, .int .i64 1] w fun e w' => e = .returned (.string s) ∧ w' = w := Any.strings_Repeat_one Tryz.lays105 s w
open Go.RowKit Go.Lib in
theorem Tryz.strings_Repeat_empty (s : ByteArray) (c : Nat) (w : World) (hc2 : 2 ≤ c) (hc : c ≤ 9223372036854775807) (h0 : s.size = 0) :
    Calls Tryz.prog 37 #[.string s, .int .i64 c] w fun e w' => e = .returned (.string ⟨#[]⟩) ∧ w' = w := Any.strings_Repeat_empty Tryz.lays105 s c w hc2 hc h0
open Go.RowKit Go.Lib in
theorem Tryz.strings_Repeat_negative (s : ByteArray) (c : Int) (w : World) (hc : c < 0) :
    Calls Tryz.prog 37 #[.string s, .int .i64 c] w fun e w' => e = .panicked [{ v := repeatPanic Tryz.lays105_ren "strings: negative Repeat count", recovered := false }] ∧ w' = w := Any.strings_Repeat_negative Tryz.lays105 s c w hc
open Go.RowKit Go.Lib in
theorem Tryz.strings_Repeat_overflow (s : ByteArray) (c : Nat) (w : World) (hc : c ≤ 9223372036854775807) (hs : s.size ≤ 9223372036854775807) (hbig : 9223372036854775807 < s.size * c) :
    Calls Tryz.prog 37 #[.string s, .int .i64 c] w fun e w' => e = .panicked [{ v := repeatPanic Tryz.lays105_ren "strings: Repeat output length overflow", recovered := false }] ∧ w' = w := Any.strings_Repeat_overflow Tryz.lays105 s c w hc hs hbig
open Go.RowKit Go.Lib in
theorem Tryz.strings_Repeat (s : ByteArray) (c : Nat) (w : World) (hc : c ≤ 9223372036854775807) (hlen : s.size * c ≤ 140737488355328) :
    Calls Tryz.prog 37 #[.string s, .int .i64 c] w fun e w' => e = .returned (.string ⟨(Lib.repeatL s.data.toList c).toArray⟩) ∧ Below w.heap.size w w' := Any.strings_Repeat Tryz.lays105 Tryz.Builder_Extra_105 s c w hc hlen
end Go.Proofs
namespace Go.Proofs.YtedmkpdohffigaaGreat.Fe
set_option linter.unusedVariables false
open Go Go.RowKit

theorem parse_at (s : ByteArray) (w : World) : Calls Tryz.prog 32 #[.string s] w fun e w' => ∃ x y z t ok, e = .returned (.tuple #[.agg (pcell x y z t), .bool ok]) ∧ ((ok = true ∧ ∃ p, encP p = s ∧ PR x y z t p) ∨ (ok = false ∧ NoP s)) ∧ Gr w w' :=
  (parse_any s w).mono fun _ _ ⟨h, hg⟩ => by
    rcases h with ⟨p, x, y, z, t, he, hp, hr⟩ | ⟨he, hn⟩
    · exact ⟨x, y, z, t, true, he, .inl ⟨rfl, p, hp, hr⟩, hg⟩
    · exact ⟨f0, f0, f0, f0, false, he, .inr ⟨rfl, hn⟩, hg⟩
/-- Some cells laid into a point: its x. -/
theorem wpList_storeX {ops : Array Oper} {rest : List Oper} {o : Oper} {a : Act} {w w0 : World} {Q : Exit → Act → World → Prop} (hgd : o.guard = none) (p y : Operand) (ho : o.op = .store 41 p y)
    (g : Nat) (f x' y' z' t' : Nat → Nat) (hg : w.heap[g]? = some (.cells (pcell x' y' z' t') 43 (0, 0))) (hB : Gr w0 w) (hb : w0.heap.size ≤ g) (hx : a.eval p = .pointer (some ⟨g, 0, none⟩)) (hy : a.eval y = .agg (ecell f))
    (h : ∀ w', w'.heap[g]? = some (.cells (pcell f y' z' t') 43 (0, 0)) → Gr w0 w' → wpList Tryz.prog ops Q rest (a.put o.dst undef) w') : wpList Tryz.prog ops Q (o :: rest) a w := by
  refine wpList_store_mid hgd 41 p y ho g 0 (ecell f) hx hy (fun j hj => ?_) (by kernel_rfl) (ecell_one f) (h _ ?_ ?_)
  · have hj' : j < 5 := hj
    have hc := cell_of_row w g (0 + j) _ _ _ hg
    refine ⟨?_, frozen_of_row _ _ _ _ _ hg⟩
    rw [hc, Array.getElem?_eq_getElem (by rw [Nat.zero_add]; exact Nat.lt_of_lt_of_le hj' (by show 5 ≤ 20; decide))]; rfl
  · show (((((w.setCell ⟨g, 0, none⟩ (.int .u64 (f 0 : Nat))).setCell ⟨g, 1, none⟩ (.int .u64 (f 1 : Nat))).setCell ⟨g, 2, none⟩ (.int .u64 (f 2 : Nat))).setCell ⟨g, 3, none⟩ (.int .u64 (f 3 : Nat))).setCell ⟨g, 4, none⟩ (.int .u64 (f 4 : Nat))).heap[g]? = _
    rw [heap_setCell_same _ _ _ _ _ _ (heap_setCell_same _ _ _ _ _ _ (heap_setCell_same _ _ _ _ _ _ (heap_setCell_same _ _ _ _ _ _ (heap_setCell_same _ _ _ _ _ _ hg))))]
    rfl
  · exact ((((hB.setCell hb _).setCell hb _).setCell hb _).setCell hb _).setCell hb _
theorem PR.neg {x y z t xn : Nat → Nat} {p : CP} (h : PR x y z t p) (hv : lf xn = -lf x) (hl : Lim 2 xn) : PB xn y z p.neg :=
  ⟨hl, h.ly, h.lz, ⟨h.rep.z, by rw [hv, h.rep.x]; show -(p.x * _) = -p.x * _; grind, h.rep.y⟩⟩
theorem F_zero_val : (0 : F).val = 0 := rfl
theorem F_one_val : (1 : F).val = 1 := by have := fv_val 1; rw [one_mod] at this; rw [← this]; rfl
theorem zero_row : (⟨#[1]⟩ ++ ⟨(Lib.repeatL (⟨#[0]⟩ : ByteArray).data.toList 31).toArray⟩ : ByteArray) = encP CP.zero := by
  have e : encP CP.zero = sbytes 1 := by unfold encP; show sbytes ((1 : F).val + 2 ^ 255 * ((0 : F).val % 2)) = _; rw [F_one_val, F_zero_val]
  rw [e]; exact bytes_ext (by decide +kernel)
theorem base_row : (⟨#[88]⟩ ++ ⟨(Lib.repeatL (⟨#[102]⟩ : ByteArray).data.toList 31).toArray⟩ : ByteArray) = encP CP.base := by
  have e : encP CP.base = sbytes bY := by
    have e1 : (fv bY).val = bY := by rw [fv_val, bY_eq, fp_eq]
    have e2 : (fv bX).val % 2 = 0 := by rw [fv_val, bX_eq, fp_eq]
    unfold encP; show sbytes ((fv bY).val + 2 ^ 255 * ((fv bX).val % 2)) = _; rw [e1, e2]; rfl
  rw [e, bY_eq]; exact bytes_ext (by decide +kernel)
section
variable {P : Program} {W : World} {S : List Nat} {T : (World → Prop) → List Nat → Act → Prop} {L : List (Oper × Kd)} {F : World → Prop} {N : List Nat} {a : Act} {o : Oper}
theorem gm_make {fn : Fn} (fs : List Operand) (ho : o.op = .makeFunc fn fs.toArray #[]) (vs : List Value) (hv : fs.map a.eval = vs)
    (h : wpG P W S T L F N (a.put o.dst (.func fn vs.toArray #[]))) : wpG P W S T ((o, .flo) :: L) F N a :=
  gm_flo _ (fun w _ => by
    subst hv
    unfold execOp
    simp only [ho, Sem.run_bind, List.map_toArray, Instr.makeFunc]
    rfl) h
end
set_option maxRecDepth 100000 in
set_option maxHeartbeats 4000000 in
theorem is_any (s : ByteArray) (w : World) : Calls Tryz.prog 25 #[.string s] w fun e w' => ∃ ok, e = .returned (.bool ok) ∧ ((ok = true ∧ ∃ p, encP p = s) ∨ (ok = false ∧ NoP s)) ∧ Gr w w' := by
  have B0 := Box.mk (Gr.refl w)
  go_enter Tryz.func25, Tryz.ntmps25
  go_upto_region 1 with (fail)
  try go_frame
  refine wp_region_seq 6 [.flo, .cha, .flo, .flo, .flo, .new (.cells (pcell f0 f0 f0 f0) 43)] (by rfl) rfl (by decide) ?_
  simp only [List.take, List.zip, List.zipWith]
  refine gm_move (.tmp 0) (.inl rfl) (.string s) rfl ?_
  try go_frame
  refine gm_call [.string s] (by kernel_rfl) rfl rfl Stb.tt (fun w1 hw1 _ => (parse_at s w1).mono ?_)
  rintro e w2 ⟨xA, yA, zA, tA, okA, rfl, hp, hw2⟩
  refine ⟨_, rfl, hw2, ?_⟩
  try go_frame
  have OKA := Box.mk hp
  clear hp
  refine gm_move (.tmp 7) (.inl rfl) (.tuple #[.agg (pcell xA yA zA tA), .bool okA]) rfl ?_
  try go_frame
  refine gm_extract (vs := #[.agg (pcell xA yA zA tA), .bool okA]) (.tmp 5) 0 rfl rfl (.agg (pcell xA yA zA tA)) rfl ?_
  try go_frame
  refine gm_extract (vs := #[.agg (pcell xA yA zA tA), .bool okA]) (.tmp 5) 1 rfl rfl (.bool okA) rfl ?_
  try go_frame
  refine gm_alloc rfl (.cells (pcell f0 f0 f0 f0) 43) (fun _ => by kernel_rfl) (fun bA hbA _ => ?_)
  try go_frame
  refine gm_nil ?_
  intro w7 hw7 hF7
  simp only [List.drop]
  try go_frame
  have HN0 := Box.mk (show w7.heap[bA]? = some (.cells (pcell f0 f0 f0 f0) 43 (0, 0)) from hF7.2)
  obtain ⟨W1, hWn⟩ : ∃ W, W = w7.setRow bA (pcell xA yA zA tA) := ⟨_, rfl⟩
  have NBA := Box.mk (show w.heap.size ≤ bA from Nat.le_trans B0.out.size hbA)
  go_upto_region 2 with ((with_reducible refine wpList_storeP rfl (.tmp 3) (.tmp 8) rfl bA xA yA zA tA (pcell f0 f0 f0 f0) rfl HN0.out ?_ ?_ ?_); rfl; rfl)
  try go_frame
  rw [← hWn]
  have hgn : Gr w W1 := by rw [hWn]; exact hw7.setRow hbA _
  skip
  have GA := Box.mk (show W1.heap[bA]? = some (.cells (pcell xA yA zA tA) 43 (0, 0)) from by rw [hWn]; exact setRow_heap _ _ _ _ _ _ HN0.out)
  replace B0 := Box.mk (B0.out.trans hgn)
  clear hWn hgn hF7 hw7 HN0 hbA
  go_wp2_with fail
  go_ret
  exact ⟨okA, rfl, OKA.out.imp (fun ⟨h, p, hp, _⟩ => ⟨h, p, hp⟩) id, B0.out⟩
set_option maxRecDepth 100000 in
set_option maxHeartbeats 4000000 in
theorem add_any' (s r : ByteArray) (w : World) : Calls Tryz.prog 27 #[.string s, .string r] w fun e w' => ((∃ p q, encP p = s ∧ encP q = r ∧ e = .returned (.tuple #[.string (encP (p.add q)), .int .i64 0])) ∨ ((NoP s ∨ NoP r) ∧ e = .returned (.tuple #[.string ⟨#[]⟩, .int .i64 60]))) ∧ Gr w w' := by
  have B0 := Box.mk (Gr.refl w)
  go_enter Tryz.func27, Tryz.ntmps27
  go_upto_region 1 with (fail)
  try go_frame
  refine wp_region_seq 6 [.flo, .cha, .flo, .flo, .flo, .new (.cells (pcell f0 f0 f0 f0) 43)] (by rfl) rfl (by decide) ?_
  simp only [List.take, List.zip, List.zipWith]
  refine gm_move (.tmp 0) (.inl rfl) (.string s) rfl ?_
  try go_frame
  refine gm_call [.string s] (by kernel_rfl) rfl rfl Stb.tt (fun w1 hw1 _ => (parse_at s w1).mono ?_)
  rintro e w2 ⟨xA, yA, zA, tA, okA, rfl, hp, hw2⟩
  refine ⟨_, rfl, hw2, ?_⟩
  try go_frame
  have OKA := Box.mk hp
  clear hp
  refine gm_move (.tmp 12) (.inl rfl) (.tuple #[.agg (pcell xA yA zA tA), .bool okA]) rfl ?_
  try go_frame
  refine gm_extract (vs := #[.agg (pcell xA yA zA tA), .bool okA]) (.tmp 10) 0 rfl rfl (.agg (pcell xA yA zA tA)) rfl ?_
  try go_frame
  refine gm_extract (vs := #[.agg (pcell xA yA zA tA), .bool okA]) (.tmp 10) 1 rfl rfl (.bool okA) rfl ?_
  try go_frame
  refine gm_alloc rfl (.cells (pcell f0 f0 f0 f0) 43) (fun _ => by kernel_rfl) (fun bA hbA _ => ?_)
  try go_frame
  refine gm_nil ?_
  intro w7 hw7 hF7
  simp only [List.drop]
  try go_frame
  have HN0 := Box.mk (show w7.heap[bA]? = some (.cells (pcell f0 f0 f0 f0) 43 (0, 0)) from hF7.2)
  obtain ⟨W1, hWn⟩ : ∃ W, W = w7.setRow bA (pcell xA yA zA tA) := ⟨_, rfl⟩
  have NBA := Box.mk (show w.heap.size ≤ bA from Nat.le_trans B0.out.size hbA)
  go_upto_region 2 with ((with_reducible refine wpList_storeP rfl (.tmp 6) (.tmp 13) rfl bA xA yA zA tA (pcell f0 f0 f0 f0) rfl HN0.out ?_ ?_ ?_); rfl; rfl)
  try go_frame
  rw [← hWn]
  have hgn : Gr w W1 := by rw [hWn]; exact hw7.setRow hbA _
  skip
  have GA := Box.mk (show W1.heap[bA]? = some (.cells (pcell xA yA zA tA) 43 (0, 0)) from by rw [hWn]; exact setRow_heap _ _ _ _ _ _ HN0.out)
  replace B0 := Box.mk (B0.out.trans hgn)
  clear hWn hgn hF7 hw7 HN0 hbA
  refine wp_region_seq 6 [.flo, .cha, .flo, .flo, .flo, .new (.cells (pcell f0 f0 f0 f0) 43)] (by rfl) rfl (by decide) ?_
  simp only [List.take, List.zip, List.zipWith]
  refine gm_move (.tmp 1) (.inl rfl) (.string r) rfl ?_
  try go_frame
  refine gm_call [.string r] (by kernel_rfl) rfl rfl Stb.tt (fun w1 hw1 _ => (parse_at r w1).mono ?_)
  rintro e w2 ⟨xB, yB, zB, tB, okB, rfl, hp, hw2⟩
  refine ⟨_, rfl, hw2, ?_⟩
  try go_frame
  have OKB := Box.mk hp
  clear hp
  refine gm_move (.tmp 17) (.inl rfl) (.tuple #[.agg (pcell xB yB zB tB), .bool okB]) rfl ?_
  try go_frame
  refine gm_extract (vs := #[.agg (pcell xB yB zB tB), .bool okB]) (.tmp 15) 0 rfl rfl (.agg (pcell xB yB zB tB)) rfl ?_
  try go_frame
  refine gm_extract (vs := #[.agg (pcell xB yB zB tB), .bool okB]) (.tmp 15) 1 rfl rfl (.bool okB) rfl ?_
  try go_frame
  refine gm_alloc rfl (.cells (pcell f0 f0 f0 f0) 43) (fun _ => by kernel_rfl) (fun bB hbB _ => ?_)
  try go_frame
  refine gm_nil ?_
  intro w7 hw7 hF7
  simp only [List.drop]
  try go_frame
  have HN0 := Box.mk (show w7.heap[bB]? = some (.cells (pcell f0 f0 f0 f0) 43 (0, 0)) from hF7.2)
  obtain ⟨W2, hWn⟩ : ∃ W, W = w7.setRow bB (pcell xB yB zB tB) := ⟨_, rfl⟩
  have NBB := Box.mk (show w.heap.size ≤ bB from Nat.le_trans B0.out.size hbB)
  go_upto_region 3 with ((with_reducible refine wpList_storeP rfl (.tmp 8) (.tmp 18) rfl bB xB yB zB tB (pcell f0 f0 f0 f0) rfl HN0.out ?_ ?_ ?_); rfl; rfl)
  try go_frame
  rw [← hWn]
  have hgn : Gr W1 W2 := by rw [hWn]; exact hw7.setRow hbB _
  replace GA := Box.mk (hgn.block GA.out)
  have GB := Box.mk (show W2.heap[bB]? = some (.cells (pcell xB yB zB tB) 43 (0, 0)) from by rw [hWn]; exact setRow_heap _ _ _ _ _ _ HN0.out)
  replace B0 := Box.mk (B0.out.trans hgn)
  clear hWn hgn hF7 hw7 HN0 hbB
  rcases OKA.out with ⟨rfl, p, hp, hpr⟩ | ⟨rfl, hn⟩
  · have PA := Box.mk hpr; have HPA := Box.mk hp
    clear hp hpr OKA
    rcases OKB.out with ⟨rfl, q, hq, hqr⟩ | ⟨rfl, hn⟩
    · have PB := Box.mk hqr; have HPB := Box.mk hq
      clear hq hqr OKB
      go_upto_region 5 with (fail)
      try go_frame
      refine wp_region_seq 4 [.flo, .flo, .cha, .cha] (by rfl) rfl (by decide) ?_
      simp only [List.take, List.zip, List.zipWith]
      refine gm_loadP (.tmp 6) rfl bA xA yA zA tA GA.out rfl ?_
      try go_frame
      refine gm_loadP (.tmp 8) rfl bB xB yB zB tB GB.out rfl ?_
      try go_frame
      refine gm_call [.agg (pcell xA yA zA tA), .agg (pcell xB yB zB tB)] (by kernel_rfl) rfl rfl Stb.tt (fun w1 hw1 _ => (padd_any PA.out PB.out w1).mono ?_)
      rintro e w2 ⟨x, y, z, t, rfl, hpr, hw2⟩
      refine ⟨_, rfl, hw2, ?_⟩
      try go_frame
      have PS := Box.mk hpr
      clear hpr
      refine gm_call [.agg (pcell x y z t)] (by kernel_rfl) rfl rfl Stb.tt (fun w1 hw1 _ => (bytes_pt PS.out w1).mono ?_)
      rintro e w2 ⟨rfl, hw2⟩
      refine ⟨_, rfl, hw2, ?_⟩
      try go_frame
      refine gm_nil ?_
      intro w7 hw7 _
      simp only [List.drop]
      try go_frame
      replace B0 := Box.mk (B0.out.trans hw7)
      clear hw7
      go_wp2_with fail
      go_ret2
      exact ⟨.inl ⟨p, q, HPA.out, HPB.out, rfl⟩, B0.out⟩
    · have HN := Box.mk hn
      clear hn OKB
      go_wp2_with fail
      go_ret2
      exact ⟨.inr ⟨.inr HN.out, rfl⟩, B0.out⟩
  · have HN := Box.mk hn
    clear hn OKA
    go_wp2_with fail
    go_ret2
    exact ⟨.inr ⟨.inl HN.out, rfl⟩, B0.out⟩
set_option maxRecDepth 100000 in
set_option maxHeartbeats 4000000 in
theorem base_at (w : World) : Calls Tryz.prog 15 #[] w fun e w' => e = .returned (.string (encP CP.base)) ∧ Gr w w' := by
  have B0 := Box.mk (Gr.refl w)
  go_enter Tryz.func15, Tryz.ntmps15
  go_upto_region 1 with (fail)
  try go_frame
  refine wp_region_seq 2 [.cha, .flo] (by rfl) rfl (by decide) ?_
  simp only [List.take, List.zip, List.zipWith]
  refine gm_call [.string ⟨#[102]⟩, .int .i64 31] (by kernel_rfl) rfl rfl Stb.tt (fun w1 hw1 _ => ((fun v => Tryz.strings_Repeat ⟨#[102]⟩ 31 v (by omega) (by decide)) w1).mono ?_)
  rintro e w2 ⟨rfl, hw2⟩
  refine ⟨_, rfl, Gr.of hw2, ?_⟩
  try go_frame
  refine gm_bin (.const (.string ⟨#[88]⟩)) (.tmp 1) rfl (.string (encP CP.base)) (fun _ _ => rfl) (fun w' => ?_) ?_
  · rw [← base_row]; exact run_string_add_sum _ ⟨#[88]⟩ ⟨(Lib.repeatL (⟨#[102]⟩ : ByteArray).data.toList 31).toArray⟩ (by decide)
  try go_frame
  refine gm_nil ?_
  intro w7 hw7 _
  simp only [List.drop]
  try go_frame
  replace B0 := Box.mk (B0.out.trans hw7)
  clear hw7
  go_wp2_with fail
  go_ret
  exact ⟨rfl, B0.out⟩
set_option maxRecDepth 100000 in
set_option maxHeartbeats 4000000 in
theorem mul_any' (k s : ByteArray) (w : World) : Calls Tryz.prog 14 #[.string k, .string s] w fun e w' => ((∃ p, encP p = s ∧ k.size = 32 ∧ e = .returned (.tuple #[.string (encP (p.mul (num k))), .int .i64 0])) ∨ ((NoP s ∨ k.size ≠ 32) ∧ e = .returned (.tuple #[.string ⟨#[]⟩, .int .i64 60]))) ∧ Gr w w' := by
  have B0 := Box.mk (Gr.refl w)
  go_enter Tryz.func14, Tryz.ntmps14
  go_upto_region 1 with (fail)
  try go_frame
  refine wp_region_seq 6 [.flo, .cha, .flo, .flo, .flo, .new (.cells (pcell f0 f0 f0 f0) 43)] (by rfl) rfl (by decide) ?_
  simp only [List.take, List.zip, List.zipWith]
  refine gm_move (.tmp 1) (.inl rfl) (.string s) rfl ?_
  try go_frame
  refine gm_call [.string s] (by kernel_rfl) rfl rfl Stb.tt (fun w1 hw1 _ => (parse_at s w1).mono ?_)
  rintro e w2 ⟨xA, yA, zA, tA, okA, rfl, hp, hw2⟩
  refine ⟨_, rfl, hw2, ?_⟩
  try go_frame
  have OKA := Box.mk hp
  clear hp
  refine gm_move (.tmp 10) (.inl rfl) (.tuple #[.agg (pcell xA yA zA tA), .bool okA]) rfl ?_
  try go_frame
  refine gm_extract (vs := #[.agg (pcell xA yA zA tA), .bool okA]) (.tmp 8) 0 rfl rfl (.agg (pcell xA yA zA tA)) rfl ?_
  try go_frame
  refine gm_extract (vs := #[.agg (pcell xA yA zA tA), .bool okA]) (.tmp 8) 1 rfl rfl (.bool okA) rfl ?_
  try go_frame
  refine gm_alloc rfl (.cells (pcell f0 f0 f0 f0) 43) (fun _ => by kernel_rfl) (fun bA hbA _ => ?_)
  try go_frame
  refine gm_nil ?_
  intro w7 hw7 hF7
  simp only [List.drop]
  try go_frame
  have HN0 := Box.mk (show w7.heap[bA]? = some (.cells (pcell f0 f0 f0 f0) 43 (0, 0)) from hF7.2)
  obtain ⟨W1, hWn⟩ : ∃ W, W = w7.setRow bA (pcell xA yA zA tA) := ⟨_, rfl⟩
  have NBA := Box.mk (show w.heap.size ≤ bA from Nat.le_trans B0.out.size hbA)
  go_upto_region 2 with ((with_reducible refine wpList_storeP rfl (.tmp 6) (.tmp 11) rfl bA xA yA zA tA (pcell f0 f0 f0 f0) rfl HN0.out ?_ ?_ ?_); rfl; rfl)
  try go_frame
  rw [← hWn]
  have hgn : Gr w W1 := by rw [hWn]; exact hw7.setRow hbA _
  skip
  have GA := Box.mk (show W1.heap[bA]? = some (.cells (pcell xA yA zA tA) 43 (0, 0)) from by rw [hWn]; exact setRow_heap _ _ _ _ _ _ HN0.out)
  replace B0 := Box.mk (B0.out.trans hgn)
  clear hWn hgn hF7 hw7 HN0 hbA
  rcases OKA.out with ⟨rfl, p, hp, hpr⟩ | ⟨rfl, hn⟩
  · have PA := Box.mk hpr; have HPA := Box.mk hp
    clear hp hpr OKA
    by_cases hk : k.size = 32
    · have hkI : (k.size : Int) = 32 := by omega
      have HK := Box.mk hk
      clear hk
      go_upto_region 4 with (fail)
      try go_frame
      refine wp_region_mix 6 [.flo, .cha, .flo, .flo, .cha, .cha] (by kernel_rfl) (by kernel_rfl) rfl ?_
      simp only [List.take, List.zip, List.zipWith]
      refine gm_move (.tmp 0) (.inl rfl) (.string k) rfl ?_
      try go_frame
      refine gm_call [] (by kernel_rfl) rfl rfl Stb.tt (fun w1 hw1 _ => (zero_any w1).mono ?_)
      rintro e w2 ⟨rfl, hw2⟩
      refine ⟨_, rfl, hw2, ?_⟩
      try go_frame
      refine gm_make [.tmp 21] rfl [.agg (pcell f0 (smF 1) (smF 1) f0)] rfl ?_
      try go_frame
      refine gm_loadP (.tmp 6) rfl bA xA yA zA tA GA.out rfl ?_
      try go_frame
      refine gm_call [.string k, .func (.func 35) #[.agg (pcell f0 (smF 1) (smF 1) f0)] #[], .agg (pcell xA yA zA tA)] (by kernel_rfl) rfl rfl Stb.tt (fun w1 hw1 _ => (times_pt PR.zero PA.out k HK.out w1).mono ?_)
      rintro e w2 ⟨x, y, z, t, rfl, hpr, hw2⟩
      refine ⟨_, rfl, hw2, ?_⟩
      try go_frame
      have PS := Box.mk (show PR x y z t (p.mul (num k)) from by rwa [CP.zero_add] at hpr)
      clear hpr
      refine gm_call [.agg (pcell x y z t)] (by kernel_rfl) rfl rfl Stb.tt (fun w1 hw1 _ => (bytes_pt PS.out w1).mono ?_)
      rintro e w2 ⟨rfl, hw2⟩
      refine ⟨_, rfl, hw2, ?_⟩
      try go_frame
      refine gm_nil ?_
      intro w7 hw7 _
      simp only [List.drop]
      try go_frame
      replace B0 := Box.mk (B0.out.trans (Gr.trans (show Gr W1 W1.drew from (Below.refl _ _).drew) hw7))
      clear hw7 hkI
      go_wp2_with fail
      go_ret2
      exact ⟨.inl ⟨p, HPA.out, HK.out, rfl⟩, B0.out⟩
    · have hk' : ((k.size : Int) == 32) = false := by rw [beq_eq_false_iff_ne]; omega
      have HK := Box.mk hk
      clear hk
      go_wp2_with fail
      go_ret2
      exact ⟨.inr ⟨.inr HK.out, rfl⟩, B0.out⟩
  · have HN := Box.mk hn
    clear hn OKA
    go_wp2_with fail
    go_ret2
    exact ⟨.inr ⟨.inl HN.out, rfl⟩, B0.out⟩
end Go.Proofs.YtedmkpdohffigaaGreat.Fe
namespace Go.Proofs.YtedmkpdohffigaaGreat.Fe
set_option linter.unusedVariables false
open Go Go.RowKit

/-- A string is the point p's. -/
structure Pt (t : ByteArray) (p : CP) : Prop where
  eq : t = encP p
theorem Pt.of {s : ByteArray} {p : CP} (h : encP p = s) : Pt s p := ⟨h.symm⟩
theorem Pt.same {s t : ByteArray} {p q : CP} (hs : Pt s p) (ht : Pt t q) (h : p = q) : (s.toList == t.toList) = true := by
  rw [beq_toList, hs.eq, ht.eq, h]; simp
theorem Pt.other {s t : ByteArray} {p q : CP} (hs : Pt s p) (ht : Pt t q) (h : p ≠ q) : (s.toList == t.toList) = false := by
  rw [beq_toList]; refine decide_eq_false fun e => h (encP_inj ?_)
  rw [← hs.eq, ← ht.eq, e]
theorem Pt.size {s : ByteArray} {p : CP} (h : Pt s p) : s.size = 32 := by rw [h.eq]; exact encP_size p
theorem pt_or (s : ByteArray) : (∃ p, Pt s p) ∨ NoP s := by
  by_cases h : ∃ p, encP p = s
  · exact .inl (h.elim fun p hp => ⟨p, Pt.of hp⟩)
  · exact .inr fun p hp => h ⟨p, hp⟩
theorem Pt.num {s : ByteArray} {p : CP} (h : Pt s p) : NoP s → False := fun hn => hn p h.eq.symm
theorem encP_zero : encP CP.zero = sbytes 1 := by unfold encP; show sbytes ((1 : F).val + 2 ^ 255 * ((0 : F).val % 2)) = _; rw [F_one_val, F_zero_val]
def baseB : ByteArray := ⟨#[88, 102, 102, 102, 102, 102, 102, 102, 102, 102, 102, 102, 102, 102, 102, 102, 102, 102, 102, 102, 102, 102, 102, 102, 102, 102, 102, 102, 102, 102, 102, 102]⟩
theorem encP_base : encP CP.base = baseB := by rw [← base_row]; rfl
theorem Pt.base0 {s : ByteArray} (h : Pt s CP.base) (hl : 0 < s.size) : (s[0]'hl).toNat = 88 := by
  obtain rfl : s = baseB := by rw [h.eq, encP_base]
  rfl
theorem Pt.base31 {s : ByteArray} (h : Pt s CP.base) (hl : 31 < s.size) : (s[31]'hl).toNat = 102 := by
  obtain rfl : s = baseB := by rw [h.eq, encP_base]
  rfl
theorem Pt.zero0 {s : ByteArray} (h : Pt s CP.zero) (hl : 0 < s.size) : (s[0]'hl).toNat = 1 := by
  obtain rfl : s = sbytes 1 := by rw [h.eq, encP_zero]
  rfl
theorem no_empty : NoP ⟨#[]⟩ := no_size (by decide)
theorem no_odd : NoP (sbytes (1 + 2 ^ 255)) := fun p hp => by
  have h1 := (enc_iff p (sbytes_size _)).1 hp
  rw [num_sbytes] at h1
  have e : (256 : Nat) ^ 32 = 2 ^ 256 := rfl
  have h2 : p.y.val = 1 := by rw [h1.1]
  have h3 : p.x.val % 2 = 1 := by rw [h1.2]
  have hy : p.y = 1 := Fin.ext (h2.trans F_one_val.symm)
  have h4 := xx_of_on p.on
  have h5 : p.x * p.x = 0 := by rw [h4, hy]; unfold xxOf; grind
  have h6 : p.x = 0 := (f_mul_zero h5).elim id id
  rw [h6, F_zero_val] at h3
  omega
section
variable {a b k m : ByteArray} {p q : CP}
theorem cis (h : Pt a p) (w : World) : Calls Tryz.prog 25 #[.string a] w fun e w' => e = .returned (.bool true) ∧ Gr w w' :=
  (is_any a w).mono fun _ _ ⟨ok, he, ho, hg⟩ => by
    rcases ho with ⟨rfl, _⟩ | ⟨_, hn⟩
    · exact ⟨he, hg⟩
    · exact (h.num hn).elim
theorem cis_no (h : NoP a) (w : World) : Calls Tryz.prog 25 #[.string a] w fun e w' => e = .returned (.bool false) ∧ Gr w w' :=
  (is_any a w).mono fun _ _ ⟨ok, he, ho, hg⟩ => by
    rcases ho with ⟨_, p, hp⟩ | ⟨rfl, _⟩
    · exact (h p hp).elim
    · exact ⟨he, hg⟩
theorem cadd (h : Pt a p) (h2 : Pt b q) (w : World) : Calls Tryz.prog 27 #[.string a, .string b] w fun e w' => ∃ t, Box (Pt t (p.add q)) ∧ e = .returned (.tuple #[.string t, .int .i64 0]) ∧ Gr w w' :=
  (add_any' a b w).mono fun _ _ ⟨ho, hg⟩ => by
    rcases ho with ⟨p', q', hp, hq, he⟩ | ⟨hn | hn, _⟩
    · obtain rfl : p' = p := encP_inj (hp.trans h.eq)
      obtain rfl : q' = q := encP_inj (hq.trans h2.eq)
      exact ⟨_, ⟨⟨rfl⟩⟩, he, hg⟩
    · exact (h.num hn).elim
    · exact (h2.num hn).elim
theorem cadd_no (h : NoP a ∨ NoP b) (w : World) : Calls Tryz.prog 27 #[.string a, .string b] w fun e w' => e = .returned (.tuple #[.string ⟨#[]⟩, .int .i64 60]) ∧ Gr w w' :=
  (add_any' a b w).mono fun _ _ ⟨ho, hg⟩ => by
    rcases ho with ⟨p', q', hp, hq, _⟩ | ⟨_, he⟩
    · exact (h.elim (fun h => h _ hp) (fun h => h _ hq)).elim
    · exact ⟨he, hg⟩
theorem cmul (h : Pt a p) (hk : k.size = 32) (w : World) : Calls Tryz.prog 14 #[.string k, .string a] w fun e w' => ∃ t, Box (Pt t (p.mul (Go.Proofs.YtedmkpdohffigaaGreat.num k))) ∧ e = .returned (.tuple #[.string t, .int .i64 0]) ∧ Gr w w' :=
  (mul_any' k a w).mono fun _ _ ⟨ho, hg⟩ => by
    rcases ho with ⟨p', hp, _, he⟩ | ⟨hn | hn, _⟩
    · obtain rfl : p' = p := encP_inj (hp.trans h.eq)
      exact ⟨_, ⟨⟨rfl⟩⟩, he, hg⟩
    · exact (h.num hn).elim
    · exact absurd hk hn
theorem mul_no (h : NoP a ∨ k.size ≠ 32) (w : World) : Calls Tryz.prog 14 #[.string k, .string a] w fun e w' => e = .returned (.tuple #[.string ⟨#[]⟩, .int .i64 60]) ∧ Gr w w' :=
  (mul_any' k a w).mono fun _ _ ⟨ho, hg⟩ => by
    rcases ho with ⟨p', hp, hk, _⟩ | ⟨_, he⟩
    · exact (h.elim (fun h => h _ hp) (fun h => h hk)).elim
    · exact ⟨he, hg⟩
theorem cbase (w : World) : Calls Tryz.prog 15 #[] w fun e w' => ∃ t, Box (Pt t CP.base) ∧ e = .returned (.string t) ∧ Gr w w' :=
  (base_at w).mono fun _ _ ⟨he, hg⟩ => ⟨_, ⟨⟨rfl⟩⟩, he, hg⟩
end
section
variable {P : Program} {W : World} {S : List Nat} {T : (World → Prop) → List Nat → Act → Prop} {L : List (Oper × Kd)} {F : World → Prop} {N : List Nat} {a : Act} {o : Oper}
/-- A slice is made. -/
theorem gm_mk {ty : TypeId} (l c : Operand) (ho : o.op = .makeSlice ty l c) (X : Obj) {vl vc : Value} (hl : a.eval l = vl) (hc : a.eval c = vc) (n m : Nat) (hr : ∀ w, (Instr.makeSlice ty vl vc).run P w = .ok (.slice (some ⟨w.heap.size, 0, none⟩) n m) (w.alloc X)) (hF : Stb F)
    (h : ∀ b, W.heap.size ≤ b → wpG P W S T L (fun w => F w ∧ w.heap[b]? = some X) ([b] ++ N) (a.put o.dst (.slice (some ⟨b, 0, none⟩) n m))) : wpG P W S T ((o, .cha) :: L) F N a :=
  gm_val fun w hw hFw => ⟨_, _, by
    subst hl hc
    unfold execOp
    simp only [ho, Sem.run_bind, hr, Result.andThen_ok, Sem.run_pure], Gr.alloc _ _, _, [w.heap.size], hF.new _ _, ⟨hF _ _ (Gr.alloc _ _) hFw, heap_alloc_new _ _⟩, fun b hb => by simp at hb; subst hb; simp, h _ hw.size⟩
end
end Go.Proofs.YtedmkpdohffigaaGreat.Fe
namespace Go.Proofs.YtedmkpdohffigaaGreat.Num
set_option linter.unusedVariables false
theorem pr_1224481 : Pr 1224481 := pr_small (by decide +kernel)
theorem pr_531581 : Pr 531581 := pr_small (by decide +kernel)
theorem pr_1257559732178653 : Pr 1257559732178653 :=
  prime_of (F := 1224481 * 531581) (by decide +kernel) (by decide +kernel) fun r hr hd =>
    two_dvd (by decide +kernel) (pock_pm (a := 2) (R := 1027014492) pr_1224481 (by decide +kernel) hr hd)
      (pock_pm (a := 2) (R := 2365697292) pr_531581 (by decide +kernel) hr hd)
theorem pr_4434155615661930479 : Pr 4434155615661930479 :=
  prime_of (F := 1257559732178653) (by decide +kernel) (by decide +kernel) fun r hr hd =>
    pock_pm (a := 2) (R := 3526) pr_1257559732178653 (by decide +kernel) hr hd
theorem pr_172054593956031949258510691 : Pr 172054593956031949258510691 :=
  prime_of (F := 4434155615661930479) (by decide +kernel) (by decide +kernel) fun r hr hd =>
    pock_pm (a := 2) (R := 38802110) pr_4434155615661930479 (by decide +kernel) hr hd
theorem pr_19757330305831588566944191468367130476339 : Pr 19757330305831588566944191468367130476339 :=
  prime_of (F := 172054593956031949258510691) (by decide +kernel) (by decide +kernel) fun r hr hd =>
    pock_pm (a := 2) (R := 114831751082918) pr_172054593956031949258510691 (by decide +kernel) hr hd
theorem pr_276602624281642239937218680557139826668747 : Pr 276602624281642239937218680557139826668747 :=
  prime_of (F := 19757330305831588566944191468367130476339) (by decide +kernel) (by decide +kernel) fun r hr hd =>
    pock_pm (a := 2) (R := 14) pr_19757330305831588566944191468367130476339 (by decide +kernel) hr hd
theorem pr_7237005577332262213973186563042994240857116359379907606001950938285454250989 : Pr 7237005577332262213973186563042994240857116359379907606001950938285454250989 :=
  prime_of (F := 276602624281642239937218680557139826668747) (by decide +kernel) (by decide +kernel) fun r hr hd =>
    pock_pm (a := 2) (R := 26163907866482859529727157400808004) pr_276602624281642239937218680557139826668747 (by decide +kernel) hr hd
end Go.Proofs.YtedmkpdohffigaaGreat.Num
namespace Go.Proofs.YtedmkpdohffigaaGreat.Fe
set_option linter.unusedVariables false
open Go Go.RowKit

/-- Pigeons. -/
theorem pigeon : ∀ (n m : Nat) (f : Nat → Nat), (∀ i, i < m → f i < n) → (∀ i j, i < m → j < m → f i = f j → i = j) → m ≤ n
  | 0, m, f, h, _ => by
    by_cases hm : m = 0
    · omega
    · have := h 0 (by omega); omega
  | n + 1, 0, _, _, _ => by omega
  | n + 1, m + 1, f, h, hi => by
    have hne : ∀ i, i < m → f i ≠ f m := fun i hi' e => by have := hi i m (by omega) (by omega) e; omega
    have hm := h m (by omega)
    have := pigeon n m (fun i => if f i > f m then f i - 1 else f i) (fun i hi' => by
      have h1 := h i (by omega); have h3 := hne i hi'
      show (if f i > f m then f i - 1 else f i) < n
      split <;> omega) (fun i j hi' hj' e => by
      have h3 := hne i hi'; have h4 := hne j hj'
      refine hi i j (by omega) (by omega) ?_
      have e : (if f i > f m then f i - 1 else f i) = (if f j > f m then f j - 1 else f j) := e
      split at e <;> split at e <;> omega)
    omega
theorem CP.mul_cancel {q : CP} {a b : Nat} (h : q.mul a = q.mul b) (hab : a ≤ b) : q.mul (b - a) = CP.zero := by
  have e : q.mul b = (q.mul a).add (q.mul (b - a)) := by rw [← CP.mul_add]; congr 1; omega
  rw [e] at h
  refine (CP.cancel (p := q.mul a) (q := CP.zero) (r := q.mul (b - a)) ?_).symm
  rw [CP.add_zero]; exact h
theorem CP.mul_dvd {q : CP} {a b : Nat} (h : q.mul a = CP.zero) (hd : a ∣ b) : q.mul b = CP.zero := by
  obtain ⟨c, rfl⟩ := hd
  rw [CP.mul_mul, h, CP.zero_mul]
theorem CP.mul_gcd {q : CP} (a b : Nat) (ha : q.mul a = CP.zero) (hb : q.mul b = CP.zero) : q.mul (Nat.gcd a b) = CP.zero := by
  induction a, b using Nat.gcd.induction with
  | H0 n => rw [Nat.gcd_zero_left]; exact hb
  | H1 m n hm ih =>
    rw [Nat.gcd_rec]
    refine ih ?_ ha
    have h1 : q.mul n = (q.mul (m * (n / m))).add (q.mul (n % m)) := by rw [← CP.mul_add, Nat.div_add_mod]
    rw [hb, CP.mul_dvd ha ⟨n / m, rfl⟩, CP.zero_add] at h1
    exact h1.symm
theorem CP.mul_comm' (q : CP) (a b : Nat) : (q.mul a).mul b = (q.mul b).mul a := by rw [← CP.mul_mul, ← CP.mul_mul, Nat.mul_comm]
/-- The order is prime. -/
theorem oL_prime : Num.Pr oL := by rw [oL_eq]; exact Num.pr_7237005577332262213973186563042994240857116359379907606001950938285454250989
theorem oL_coprime {c : Nat} (h0 : 0 < c) (h : c < oL) : Nat.gcd c oL = 1 := by
  rcases oL_prime.2 _ (Nat.gcd_dvd_right c oL) with h1 | h1
  · exact h1
  · have := Nat.le_of_dvd h0 (h1 ▸ Nat.gcd_dvd_left c oL); omega
theorem base_ne : CP.base ≠ CP.zero := fun h => by
  have h1 : bX % fp = 0 := congrArg (fun p : CP => p.x.val) h
  rw [bX_eq, fp_eq] at h1
  revert h1; decide
/-- Multiples of the base below the order are apart. -/
theorem base_apart {a b : Nat} (ha : a < oL) (hb : b < oL) (h : CP.base.mul a = CP.base.mul b) : a = b := by
  have key : ∀ {a b : Nat}, a < b → b < oL → CP.base.mul a = CP.base.mul b → False := fun {a b} hab hb h => by
    have h1 := CP.mul_gcd _ _ (CP.mul_cancel h (Nat.le_of_lt hab)) base_order
    rw [oL_coprime (by omega) (by omega), CP.mul_one] at h1
    exact base_ne h1
  rcases Nat.lt_trichotomy a b with h1 | h1 | h1
  · exact (key h1 hb h).elim
  · exact h1
  · exact (key h1 ha h.symm).elim
theorem base_mod (n : Nat) : CP.base.mul (n % oL) = CP.base.mul n := by
  have h1 : CP.base.mul n = (CP.base.mul (oL * (n / oL))).add (CP.base.mul (n % oL)) := by rw [← CP.mul_add, Nat.div_add_mod]
  rw [h1, CP.mul_mul, base_order, CP.zero_mul, CP.zero_add]
/-- A point of eight. -/
@[irreducible] def tX : Nat := 14399317868200118260347934320527232580618823971194345261214217575416788799818
@[irreducible] def tY : Nat := 55188659117513257062467267217118295137698188065244968500265048394206261417927
theorem tX_eq : tX = 14399317868200118260347934320527232580618823971194345261214217575416788799818 := by unfold tX; first | done | rfl
theorem tY_eq : tY = 55188659117513257062467267217118295137698188065244968500265048394206261417927 := by unfold tY; first | done | rfl
theorem on_t : On (fv tX) (fv tY) := by
  have h : fv (dN * tX * tX * tY * tY + 1 + tX * tX) = fv (tY * tY) := fv_eq (by rw [dN_eq, tX_eq, tY_eq, fp_eq])
  simp only [fv_add, fv_mul, fv_one] at h
  unfold On cd
  rw [h]; grind
def CP.t8 : CP := ⟨fv tX, fv tY, on_t⟩
theorem RepT.t8 : RepT ⟨tX, tY, 1⟩ CP.t8 := ⟨one_ne, by show fv tX = fv tX * fv 1; rw [fv_one]; grind, by show fv tY = fv tY * fv 1; rw [fv_one]; grind⟩
theorem RepT.not_zero {t : T3} {q : CP} (h : RepT t q) (k : zeroT fp t = false) : q ≠ CP.zero := fun e => by
  subst e
  have hx : fv t.X = 0 := by have := h.x; rw [this]; show (0 : F) * _ = 0; grind
  have hy : fv t.Y = fv t.Z := by have := h.y; rw [this]; show (1 : F) * _ = _; grind
  have : zeroT fp t = true := by
    simp only [zeroT, Bool.and_eq_true, beq_iff_eq]
    exact ⟨congrArg Fin.val hx, fv_inj hy⟩
  rw [this] at k; cases k
theorem t8_ck : zeroT fp (manyT fp dN ⟨tX, tY, 1⟩ 4 8) = true := by
  rw [fp_eq, dN_eq, tX_eq, tY_eq]; decide +kernel
theorem t4_ck : zeroT fp (manyT fp dN ⟨tX, tY, 1⟩ 4 4) = false := by
  rw [fp_eq, dN_eq, tX_eq, tY_eq]; decide +kernel
theorem t8_zero : CP.t8.mul 8 = CP.zero := (RepT.t8.many 4 8 (by omega)).is_zero t8_ck
theorem t4_ne : CP.t8.mul 4 ≠ CP.zero := (RepT.t8.many 4 4 (by omega)).not_zero t4_ck
/-- A point of eight, as many times as the order: of eight too. -/
theorem tl_apart {a b : Nat} (ha : a < 8) (hb : b < 8) (h : (CP.t8.mul oL).mul a = (CP.t8.mul oL).mul b) : a = b := by
  have h8 : (CP.t8.mul oL).mul 8 = CP.zero := by rw [CP.mul_comm', t8_zero, CP.zero_mul]
  have h4 : (CP.t8.mul oL).mul 4 ≠ CP.zero := fun e => t4_ne (by
    rw [CP.mul_comm'] at e
    have e2 : (CP.t8.mul 4).mul oL = CP.t8.mul 4 := by
      rw [← CP.mul_mul, show 4 * oL = 8 * (4 * oL / 8) + 4 by rw [oL_eq], CP.mul_add, CP.mul_mul, t8_zero, CP.zero_mul, CP.zero_add]
    rw [e2] at e; exact e)
  have key : ∀ {a b : Nat}, a < b → b < 8 → (CP.t8.mul oL).mul a = (CP.t8.mul oL).mul b → False := fun {a b} hab hb h => by
    have h1 := CP.mul_gcd _ _ (CP.mul_cancel h (Nat.le_of_lt hab)) h8
    refine h4 (CP.mul_dvd h1 ?_)
    have : ∀ d : Fin 8, 0 < d.val → Nat.gcd d.val 8 ∣ 4 := by decide +kernel
    exact this ⟨b - a, by omega⟩ (by show 0 < b - a; omega)
  rcases Nat.lt_trichotomy a b with h1 | h1 | h1
  · exact (key h1 hb h).elim
  · exact h1
  · exact (key h1 ha h.symm).elim
/-- A point's number. -/
def codeP (p : CP) : Nat := 2 * p.y.val + p.x.val % 2
theorem codeP_lt (p : CP) : codeP p < 2 * fp := by have := p.y.isLt; unfold codeP; omega
theorem codeP_inj {p q : CP} (h : codeP p = codeP q) : p = q := by
  unfold codeP at h
  have h1 : p.y.val = q.y.val := by omega
  have h2 : p.x.val % 2 = q.x.val % 2 := by omega
  refine encP_inj ?_
  unfold encP; rw [h1, h2]
def ptI (P : CP) (i : Nat) : CP := ((CP.t8.mul (i % 8)).add (CP.base.mul (i / 8 % oL))).add (P.mul (i / 8 / oL))
theorem ptI_K (P : CP) (i : Nat) : (ptI P i).mul (8 * oL) = (P.mul (8 * oL)).mul (i / 8 / oL) := by
  unfold ptI
  rw [CP.add_mul, CP.add_mul, CP.mul_comm' CP.t8, CP.mul_comm' CP.base, CP.mul_comm' P, CP.mul_mul CP.t8 8 oL, t8_zero, CP.zero_mul, CP.zero_mul, CP.mul_dvd base_order ⟨8, Nat.mul_comm _ _⟩, CP.zero_mul, CP.add_zero, CP.zero_add]
theorem oL_pos : 0 < oL := by rw [oL_eq]; decide
theorem oL_big : 2 * fp < 16 * oL := by rw [oL_eq, fp_eq]; decide
/-- EACH POINT EIGHT TIMES, AND THAT AS MANY TIMES AS THE ORDER, IS THE ZERO. -/
theorem eight (P : CP) : P.mul (8 * oL) = CP.zero := Classical.byContradiction fun hP => by
  have hlt : ∀ i, i < 16 * oL → i / 8 / oL < 2 := fun i hi => by
    rw [Nat.div_div_eq_div_mul, Nat.div_lt_iff_lt_mul (by have := oL_pos; omega)]; omega
  have := pigeon (2 * fp) (16 * oL) (fun i => codeP (ptI P i)) (fun i _ => codeP_lt _) (fun i j hi hj e => by
    have e := codeP_inj e
    have e1 := hlt i hi; have e2 := hlt j hj
    have hK : (P.mul (8 * oL)).mul (i / 8 / oL) = (P.mul (8 * oL)).mul (j / 8 / oL) := by rw [← ptI_K, ← ptI_K, e]
    have he : i / 8 / oL = j / 8 / oL := by
      generalize i / 8 / oL = a at e1 hK ⊢
      generalize j / 8 / oL = b at e2 hK ⊢
      match a, b, e1, e2, hK with
      | 0, 0, _, _, _ => rfl
      | 1, 1, _, _, _ => rfl
      | 0, 1, _, _, hK => rw [CP.mul_one] at hK; exact (hP hK.symm).elim
      | 1, 0, _, _, hK => rw [CP.mul_one] at hK; exact (hP hK).elim
    unfold ptI at e
    rw [he, CP.add_comm, CP.add_comm _ (P.mul _)] at e
    have e3 := CP.cancel e
    have e4 : (CP.t8.mul oL).mul (i % 8) = (CP.t8.mul oL).mul (j % 8) := by
      have h := congrArg (fun q : CP => q.mul oL) e3
      simp only [CP.add_mul] at h
      rw [CP.mul_comm' CP.base (i / 8 % oL) oL, CP.mul_comm' CP.base (j / 8 % oL) oL, base_order, CP.zero_mul, CP.zero_mul, CP.add_zero, CP.add_zero, CP.mul_comm' CP.t8 (i % 8) oL, CP.mul_comm' CP.t8 (j % 8) oL] at h
      exact h
    have h8 := tl_apart (Nat.mod_lt _ (by omega)) (Nat.mod_lt _ (by omega)) e4
    rw [h8] at e3
    have hL := base_apart (Nat.mod_lt _ oL_pos) (Nat.mod_lt _ oL_pos) (CP.cancel e3)
    have d1 := Nat.div_add_mod i 8; have d2 := Nat.div_add_mod j 8
    have d3 := Nat.div_add_mod (i / 8) oL; have d4 := Nat.div_add_mod (j / 8) oL
    rw [he, hL] at d3
    omega)
  have := oL_big
  omega
end Go.Proofs.YtedmkpdohffigaaGreat.Fe
namespace Go.Proofs.YtedmkpdohffigaaGreat
set_option linter.unusedVariables false
open Go Go.RowKit

/-- Digit i of a number, of base 256; a row of c digits. -/
@[irreducible] def digit (n i : Nat) : Int := ((n / 256 ^ i % 256 : Nat) : Int)
theorem digit_bd (n i : Nat) : 0 ≤ digit n i ∧ digit n i < 256 := by unfold digit; omega
theorem digit_eq (n i : Nat) : digit n i = ((n / 256 ^ i % 256 : Nat) : Int) := by unfold digit; rfl
def dcells (n c : Nat) : Array Value := ((List.range c).map fun j => Value.int .i64 (digit n j)).toArray
theorem dcells_size (n c : Nat) : (dcells n c).size = c := by simp [dcells]
theorem dcells_get (n c j : Nat) (h : j < c) : (dcells n c)[j]? = some (.int .i64 (digit n j)) := by simp [dcells, h]

theorem digit_add (D i v j : Nat) (hD : D < 256 ^ i) (hv : v < 256) : digit (D + 256 ^ i * v) j = if j = i then (v : Int) else digit D j := by
  unfold digit
  split
  · rename_i h; subst h
    rw [Nat.add_mul_div_left _ _ (Nat.pow_pos (by omega)), Nat.div_eq_of_lt hD]; omega
  · rename_i h
    congr 1
    rcases Nat.lt_or_gt_of_ne h with h | h
    · obtain ⟨d, hd⟩ : ∃ d, i = j + (1 + d) := ⟨i - j - 1, by omega⟩
      rw [hd, Nat.pow_add, Nat.pow_add, Nat.pow_one, Nat.mul_assoc, Nat.mul_assoc, Nat.add_mul_div_left _ _ (Nat.pow_pos (by omega))]
      omega
    · have hle : 256 ^ i * 256 ≤ 256 ^ j := by rw [← Nat.pow_succ]; exact Nat.pow_le_pow_right (by omega) (by omega)
      have h1 : 256 ^ i * (v + 1) ≤ 256 ^ i * 256 := Nat.mul_le_mul (Nat.le_refl _) (by omega)
      rw [Nat.mul_add] at h1
      rw [Nat.div_eq_of_lt (by omega), Nat.div_eq_of_lt (by omega)]
theorem dcells_step (D c i v : Nat) (hD : D < 256 ^ i) (hv : v < 256) : (dcells D c).setIfInBounds i (.int .i64 (v : Int)) = dcells (D + 256 ^ i * v) c := by
  apply Array.ext
  · simp [dcells]
  · intro j h1 h2
    rw [Array.getElem_setIfInBounds (by simpa using h1)]
    simp only [dcells, List.getElem_toArray, List.getElem_map, List.getElem_range]
    rw [digit_add D i v j hD hv]
    split
    · rename_i h; subst h; simp
    · rename_i h; rw [if_neg (by omega)]

theorem digit_mod (N k : Nat) : N % 256 ^ (k + 1) = N % 256 ^ k + 256 ^ k * (N / 256 ^ k % 256) := by
  rw [Nat.pow_succ, Nat.mod_mul]

/-- A slice from the head of a row of digits, kept in a world. -/
def DRow (w : World) (b c n : Nat) : Prop := ∀ j, j < c → w.cell? ⟨b, j, none⟩ = some (.int .i64 (digit n j))
theorem DRow.of {w : World} {b c n : Nat} {t : TypeId} (h : w.heap[b]? = some (.cells (dcells n c) t (0, 0))) : DRow w b c n := fun j hj => by
  rw [cell_of_row _ _ _ _ _ _ h]; exact dcells_get _ _ _ hj
theorem DRow.lt {w : World} {b c n : Nat} (h : DRow w b c n) (hc : 0 < c) : b < w.heap.size := World.block_lt_of_cell? w _ (h 0 hc)
theorem DRow.below {w w' : World} {B b c n : Nat} (h : DRow w b c n) (hb : Below B w w') (hB : b < B) : DRow w' b c n := fun j hj => by
  rw [hb.cell (p := ⟨b, j, none⟩) hB]; exact h j hj

set_option maxRecDepth 100000 in
set_option maxHeartbeats 400000 in
theorem refL_any (w : World) : Calls Tryz.prog 98 #[] w fun e w' => ∃ b, w.heap.size ≤ b ∧ e = .returned (.slice (some ⟨b, 0, none⟩) 32 32) ∧ DRow w' b 32 ordL ∧ Below w.heap.size w w' := by
  go_enter Tryz.func98, Tryz.ntmps98
  go_wp2
  go_returns
  refine ⟨w.heap.size, Nat.le_refl _, rfl, ?_, by go_grown⟩
  refine DRow.of (t := 3) ?_
  rw [heap_alloc_new]
  congr 2
  simp [dcells, digit, ordL, List.range, List.range.loop]

/-- The difference, i digits of it. -/
theorem less_step {X Y D u v u' i : Nat} (hD : D + Y % 256 ^ i = X % 256 ^ i + u * 256 ^ i) (hDl : D < 256 ^ i) 
    (hv : (v : Int) = digit X i - u - digit Y i + 256 * u') (hvl : v < 256) :
    D + 256 ^ i * v + Y % 256 ^ (i + 1) = X % 256 ^ (i + 1) + u' * 256 ^ (i + 1) ∧ D + 256 ^ i * v < 256 ^ (i + 1) := by
  rw [digit_mod, digit_mod]
  rw [digit_eq, digit_eq] at hv
  generalize X / 256 ^ i % 256 = x at hv ⊢
  generalize Y / 256 ^ i % 256 = y at hv ⊢
  generalize X % 256 ^ i = xl at hD ⊢
  generalize Y % 256 ^ i = yl at hD ⊢
  rw [Nat.pow_succ]
  generalize 256 ^ i = K at hD hDl ⊢
  have h1 : K * (v + u + y) = K * (x + 256 * u') := by congr 1; omega
  simp only [Nat.mul_add] at h1
  have e1 : u' * (K * 256) = K * (256 * u') := by rw [Nat.mul_comm K 256, ← Nat.mul_assoc, Nat.mul_comm u' 256, Nat.mul_comm (256 * u') K]
  have h2 : K * (v + 1) ≤ K * 256 := Nat.mul_le_mul (Nat.le_refl _) (by omega)
  rw [Nat.mul_add] at h2
  rw [Nat.mul_comm u K] at hD
  rw [e1]
  refine ⟨by omega, by omega⟩

structure LessSt (w : World) (g P o X Y i u : Nat) (wr : World) : Prop where
  x : DRow wr g 33 X
  y : DRow wr P 32 Y
  o : ∃ D, wr.heap[o]? = some (.cells (dcells D 33) 3 (0, 0)) ∧ D + Y % 256 ^ i = X % 256 ^ i + u * 256 ^ i ∧ D < 256 ^ i
  u : u ≤ 1
  below : Below w.heap.size w wr

theorem LessSt.step {w wr : World} {g P X Y k q D u' : Nat} {e : Int} (hx : DRow wr g 33 X) (hy : DRow wr P 32 Y) (ho : wr.heap[w.heap.size]? = some (.cells (dcells D 33) 3 (0, 0)))
    (hD : D + Y % 256 ^ k = X % 256 ^ k + q * 256 ^ k) (hDl : D < 256 ^ k) (hbel : Below w.heap.size w wr) (hg : g < w.heap.size) (hP : P < w.heap.size)
    (hu : u' ≤ 1) (he : 0 ≤ e ∧ e < 256) (hv : e = digit X k - q - digit Y k + 256 * u') : LessSt w g P w.heap.size X Y (k + 1) u' (wr.setCell ⟨w.heap.size, k, none⟩ (.int .i64 e)) := by
  obtain ⟨v, rfl⟩ := Int.eq_ofNat_of_zero_le he.1
  obtain ⟨h1, h2⟩ := less_step hD hDl hv (by omega)
  have hb2 : Below w.heap.size wr (wr.setCell ⟨w.heap.size, k, none⟩ (.int .i64 (v : Int))) := Below.setCell (p := ⟨w.heap.size, k, none⟩) (Below.refl _ _) (Nat.le_refl _) _
  exact ⟨hx.below hb2 hg, hy.below hb2 hP, ⟨_, by rw [heap_setCell_same _ _ _ _ _ _ ho, dcells_step _ _ _ _ hDl (by omega)], h1, h2⟩, hu, hbel.setCell (Nat.le_refl _) _⟩

set_option maxRecDepth 100000 in
set_option maxHeartbeats 1000000 in
theorem refLess_any (X Y g P cap1 : Nat) (w : World) (hX : DRow w g 33 X) (hY : DRow w P 32 Y) (hYl : Y < 256 ^ 32) (_hcap : 33 ≤ cap1) :
    Calls Tryz.prog 99 #[.slice (some ⟨g, 0, none⟩) 33 cap1, .slice (some ⟨P, 0, none⟩) 32 32] w fun e w' => ∃ b D, w.heap.size ≤ b ∧ e = .returned (.tuple #[.slice (some ⟨b, 0, none⟩) 33 33, .bool (decide (Y ≤ X % 256 ^ 33))]) ∧ DRow w' b 33 D ∧ (Y ≤ X % 256 ^ 33 → D = X % 256 ^ 33 - Y) ∧ Below w.heap.size w w' := by
  have hg := hX.lt (by omega)
  have hP := hY.lt (by omega)
  have hmk : ∀ w, (Instr.makeSlice 76 (.int .i64 33) (.int .i64 33)).run Tryz.prog w = .ok (.slice (some ⟨w.heap.size, 0, none⟩) 33 33) (w.alloc (.cells (dcells 0 33) 3)) := fun _ => by kernel_rfl
  have hst : LessSt w g P w.heap.size X Y 0 0 (w.alloc (.cells (dcells 0 33) 3)) :=
    ⟨hX.below ((Below.refl _ _).alloc (Nat.le_refl _) _) hg, hY.below ((Below.refl _ _).alloc (Nat.le_refl _) _) hP, ⟨0, by rw [heap_alloc_new], by simp [Nat.mod_one], by simp⟩, by omega, (Below.refl _ _).alloc (Nat.le_refl _) _⟩
  have HS := Box.mk hst; clear hst
  have HX := Box.mk hX; clear hX
  have HY := Box.mk hY; clear hY
  have HYL := Box.mk hYl; clear hYl
  go_enter Tryz.func99, Tryz.ntmps99
  go_wp2
  go_loopw [7, 8] (fun u i wr => ∃ k q : Nat, k ≤ 33 ∧ i = .int .i64 k ∧ u = .int .i64 q ∧ LessSt w g P w.heap.size X Y k q wr) (fun _ i _ => 33 - (intOf i).toNat)
  case atStart => exact ⟨0, 0, by omega, rfl, rfl, HS.out⟩
  case round =>
    clear HS
    obtain ⟨k, q, hk, rfl, rfl, hs⟩ := hrel
    obtain ⟨hx, hy, ⟨D, ho, hD, hDl⟩, hq, hbel⟩ := hs
    by_cases hlt : k < 33
    · have c1 := hx k hlt
      have c3 : wr.cell? ⟨w.heap.size, k, none⟩ = some (.int .i64 (digit D k)) := by rw [cell_of_row _ _ _ _ _ _ ho]; exact dcells_get _ _ _ hlt
      have f3 : wr.frozen? ⟨w.heap.size, k, none⟩ = false := frozen_of_row _ _ _ _ _ ho
      have bx := digit_bd X k; have b2 := digit_bd Y k
      have HST := Box.mk (fun (e : Int) (u' : Nat) hu he hv => LessSt.step (e := e) (u' := u') hx hy ho hD hDl hbel hg hP hu he hv)
      clear ho hD hDl hbel hx
      by_cases h32 : k < 32
      · have c2 := hy k h32
        clear hy
        go_wp2
        all_goals go_roundw
        case rel => exact ⟨k + 1, 1, by omega, by go_num, rfl, HST.out _ 1 (by omega) (by omega) (by omega)⟩
        case measure => simp [intOf]; omega
        case rel => exact ⟨k + 1, 0, by omega, by go_num, rfl, HST.out _ 0 (by omega) (by omega) (by omega)⟩
        case measure => simp [intOf]; omega
      · have h0 : digit Y k = 0 := by
          have : k = 32 := by omega
          subst this
          rw [digit_eq, Nat.div_eq_of_lt HYL.out]; rfl
        have H0 := Box.mk h0; clear h0 hy
        go_wp2
        all_goals go_roundw
        case rel => exact ⟨k + 1, 1, by omega, by go_num, rfl, HST.out _ 1 (by omega) (by omega) (by rw [H0.out]; omega)⟩
        case measure => simp [intOf]; omega
        case rel => exact ⟨k + 1, 0, by omega, by go_num, rfl, HST.out _ 0 (by omega) (by omega) (by rw [H0.out]; omega)⟩
        case measure => simp [intOf]; omega
    · have hk3 : k = 33 := by omega
      subst hk3
      have HO := Box.mk ho; clear ho
      have HD := Box.mk hD; clear hD
      have HDL := Box.mk hDl; clear hDl hx hy
      go_wp2
      go_ret2
      refine ⟨w.heap.size, D, Nat.le_refl _, ?_, DRow.of HO.out, ?_, hbel⟩
      · have h := HD.out
        have hl := HDL.out
        rw [Nat.mod_eq_of_lt (a := Y) (Nat.lt_trans HYL.out (Nat.pow_lt_pow_right (by omega) (by omega)))] at h
        have e : (((q : Int) == 0)) = decide (Y ≤ X % 256 ^ 33) := by
          rw [Bool.eq_iff_iff, beq_iff_eq, decide_eq_true_iff]; omega
        rw [← e]; rfl
      · intro hle
        have h := HD.out
        have hl := HDL.out
        rw [Nat.mod_eq_of_lt (a := Y) (Nat.lt_trans HYL.out (Nat.pow_lt_pow_right (by omega) (by omega)))] at h
        omega
end Go.Proofs.YtedmkpdohffigaaGreat
