/- The package curve: a point of bytes. -/
import Derived.Test.YtafhncpaoolljaaGreatM30
import Derived.Great.BuildSlice
namespace Go.Proofs.YtafhncpaoolljaaGreat.Fe
set_option maxRecDepth 100000
set_option linter.unusedVariables false
open Go Go.RowKit
theorem wpList_loadEG {ops : Array Oper} {rest : List Oper} {o : Oper} {a : Act} {w : World} {Q : Exit → Act → World → Prop} (x : Operand) (ho : o.op = .load 56 x)
   (g : Nat) (f : Nat → Nat) (hg : w.heap[g]? = some (.cells (ecell f) 56 (0, 0))) (hwd : Region.wanted o (yielded ops a.tmps) = true) (hx : a.eval x = .pointer (some ⟨g, 0, none⟩))
   (h : wpList Tryz.prog ops Q rest (a.put o.dst (.agg (ecell f))) w) : wpList Tryz.prog ops Q (o :: rest) a w :=
 wpList_step fun K hK => by rw [if_pos hwd]; exact wp_load_row 56 x ho g hx 56 (ecell f) (0, 0) _ hg Tryz.underlying56 rfl (by kernel_rfl) (hK _ _ h)
theorem num_append (a b : ByteArray) : num (a ++ b) = num a + 256 ^ a.size * num b := by
 show leNat (a ++ b).data.toList = _
 rw [ByteArray.data_append, Array.toList_append, leNat_append]; simp [num]
theorem num_cut {s : ByteArray} (hs : s.size = 32) : num s = num (s.extract 0 31) + 256 ^ 31 * s[31].toNat := by
 have hl : s.data.toList.length = 32 := by rw [← hs]; simp
 have h1 : s.data.toList = s.data.toList.take 31 ++ [s[31]] := by
   rw [← take_snoc s 31 (by omega)]; exact (List.take_of_length_le (by omega)).symm
 have h2 : (s.extract 0 31).data.toList = s.data.toList.take 31 := by simp [ByteArray.data_extract, List.extract_eq_take_drop]
 show leNat s.data.toList = leNat (s.extract 0 31).data.toList + _
 rw [h2]
 rw [h1, leNat_snoc]
 rw [← h1, List.length_take, hl]; rfl
theorem plain_eq {s : ByteArray} (hs : s.size = 32) (u : UInt8) (hu : u.toNat = s[31].toNat % 128) : s.extract 0 31 ++ ⟨[u].toArray⟩ = sbytes (num s % 2 ^ 255) := by
 have h1 := num_cut hs
 have h2 : num (s.extract 0 31) < 256 ^ 31 := by
   have := leNat_lt (s.extract 0 31).data.toList
   have h3 : (s.extract 0 31).data.toList.length = 31 := by simp; omega
   rw [h3] at this; exact this
 have h4 := s[31].toNat_lt
 have hsz : (s.extract 0 31).size = 31 := by simp; omega
 have h5 : num (⟨[u].toArray⟩ : ByteArray) = u.toNat := by simp [num, leNat]
 refine bytes_inj ?_ ?_
 · rw [sbytes_size, ByteArray.size_append, hsz]; rfl
 · rw [num_append, num_sbytes, hsz, h5, hu, h1]
   have e1 : (256 : Nat) ^ 32 = 2 ^ 256 := rfl
   have e2 : (256 : Nat) ^ 31 = 2 ^ 248 := rfl
   omega
theorem sgn_byte {s : ByteArray} (hs : s.size = 32) : num s / 2 ^ 255 = s[31].toNat / 128 := by
 have h1 := num_cut hs
 have h2 : num (s.extract 0 31) < 256 ^ 31 := by
   have := leNat_lt (s.extract 0 31).data.toList
   have h3 : (s.extract 0 31).data.toList.length = 31 := by simp; omega
   rw [h3] at this; exact this
 have h4 := s[31].toNat_lt
 have e2 : (256 : Nat) ^ 31 = 2 ^ 248 := rfl
 omega
theorem run_cut31 {s : ByteArray} (hs : s.size = 32) (w : World) : (Instr.sliceAt 9 (.string s) none (some (.int .i64 31)) none).run Tryz.prog w = .ok (.string (s.extract 0 31)) w := by
 rw [run_sliceAt_string _ _ _ _ _ _ Tryz.underlying9]
 simp [Instr.slice, Instr.sliceBounds, Instr.sliceBound, asIntOf, run_underlying Tryz.underlying9, hs]
theorem run_at31 {s : ByteArray} (hs : s.size = 32) (w : World) : (Instr.index 9 (.string s) (.int .i64 31)).run Tryz.prog w = .ok (.int .u8 (s[31].toNat : Int)) w := by
 rw [run_index_string _ _ _ _ _ Tryz.underlying9]
 simp [hs]
theorem run_and127 (q : Nat) (hq : q < 256) (w : World) : (binOp .and 5 (.int .u8 (q : Int)) (.int .u8 127)).run Tryz.prog w = .ok (.int .u8 ((q % 128 : Nat) : Int)) w := by
 have e : bits .and .u8 (q : Int) 127 = ((q % 128 : Nat) : Int) := by
   have : ∀ n : Fin 256, bits .and .u8 (n.val : Int) 127 = ((n.val % 128 : Nat) : Int) := by decide +kernel
   exact this ⟨q, hq⟩
 rw [← e]; rfl
theorem run_one (v : Value) (hv : ∃ k n, v = .int k n) (w : World) : (Instr.buildSlice 29 1 #[(0, v)]).run Tryz.prog w = .ok (.slice (some ⟨w.heap.size, 0, none⟩) 1 1) (w.alloc (.cells #[v] 5)) := by
 obtain ⟨k, n, rfl⟩ := hv
 kernel_rfl
section
variable {P : Program} {W : World} {S : List Nat} {T : (World → Prop) → List Nat → Act → Prop} {L : List (Oper × Kd)} {F : World → Prop} {N : List Nat} {a : Act} {o : Oper}
theorem gm_slice {ty : TypeId} (x : Operand) (lo hi mx : Option Operand) (ho : o.op = .slice ty x lo hi mx) (v : Value) (hr : ∀ w, (Instr.sliceAt ty (a.eval x) (lo.map a.eval) (hi.map a.eval) (mx.map a.eval)).run P w = .ok v w)
   (h : wpG P W S T L F N (a.put o.dst v)) : wpG P W S T ((o, .flo) :: L) F N a :=
 gm_flo v (fun w _ => by unfold execOp; simp only [ho, Sem.run_bind, hr, Result.andThen_ok, Sem.run_pure]) h
theorem gm_index {ty : TypeId} (x ix : Operand) (ho : o.op = .index ty x ix) (v : Value) (hr : ∀ w, (Instr.index ty (a.eval x) (a.eval ix)).run P w = .ok v w)
   (h : wpG P W S T L F N (a.put o.dst v)) : wpG P W S T ((o, .flo) :: L) F N a :=
 gm_flo v (fun w _ => by unfold execOp; simp only [ho, Sem.run_bind, hr, Result.andThen_ok, Sem.run_pure]) h
theorem gm_bin {op : BinOp} {ty t2 : TypeId} (x y : Operand) (ho : o.op = .binOp op ty x y t2) (v : Value) (hg : ∀ u u', eqGuard op ty x y u u' = pure ()) (hr : ∀ w, (binOp op ty (a.eval x) (a.eval y)).run P w = .ok v w)
   (h : wpG P W S T L F N (a.put o.dst v)) : wpG P W S T ((o, .flo) :: L) F N a :=
 gm_flo v (fun w _ => by unfold execOp; simp only [ho, hg, Sem.run_bind, hr, Result.andThen_ok, Sem.run_pure]) h
theorem gm_one {ty e : TypeId} (x : Operand) (ho : o.op = .buildSlice ty 1 #[(0, x)]) (v : Value) (hx : a.eval x = v) (hr : ∀ w, (Instr.buildSlice ty 1 #[(0, v)]).run P w = .ok (.slice (some ⟨w.heap.size, 0, none⟩) 1 1) (w.alloc (.cells #[v] e))) (hF : Stb F)
   (h : ∀ b, W.heap.size ≤ b → wpG P W S T L (fun w => F w ∧ w.heap[b]? = some (.cells #[v] e (0, 0))) ([b] ++ N) (a.put o.dst (.slice (some ⟨b, 0, none⟩) 1 1))) : wpG P W S T ((o, .cha) :: L) F N a :=
 gm_val fun w hw hFw => ⟨_, _, by
   subst hx
   unfold execOp
   simp only [ho, Sem.run_bind, List.map_toArray, List.map_cons, List.map_nil, hr, Result.andThen_ok, Sem.run_pure], Gr.alloc _ _, _, [w.heap.size], hF.new _ _, ⟨hF _ _ (Gr.alloc _ _) hFw, heap_alloc_new _ _⟩, fun b hb => by simp at hb; subst hb; simp, h _ hw.size⟩
theorem gm_conv {src dst : TypeId} (x : Operand) (ho : o.op = .convert src dst x) (v : Value) (hF : Stb F) (hr : ∀ w, GrS S W w → F w → (convert src dst (a.eval x)).run P w = .ok v w)
   (h : wpG P W S T L F N (a.put o.dst v)) : wpG P W S T ((o, .cha) :: L) F N a :=
 gm_val fun w hw hFw => ⟨v, w, by unfold execOp; simp only [ho, Sem.run_bind, hr w hw hFw, Result.andThen_ok, Sem.run_pure], Gr.refl _, F, [], hF, hFw, (fun _ hb => by cases hb), h⟩
end
theorem lf_of {x : Nat → Nat} {n : Nat} (h : lv x % fp = n) (hn : n < fp) : lf x = fv n := fv_eq (h.trans (Nat.mod_eq_of_lt hn).symm)
theorem lf_neg {x h : Nat → Nat} (hv : (lv h + lv x) % fp = 0) : lf h = -lf x := by
 have e : fv (lv h + lv x) = fv 0 := fv_eq (hv.trans (Nat.zero_mod _).symm)
 rw [fv_add] at e
 have e0 : fv 0 = 0 := rfl
 rw [e0] at e
 unfold lf; grind
theorem sign_keep {b : Nat} {Y : F} {x : Nat → Nat} (hx : lv x % fp = rawR (xxOf Y).val) (hp : rawR (xxOf Y).val % 2 = b) : lf x = signX Y b := by
 unfold signX; rw [if_pos hp]; exact lf_of hx (rawR_lt _)
theorem sign_neg {b : Nat} {Y : F} {x h : Nat → Nat} (hx : lv x % fp = rawR (xxOf Y).val) (hn : lf h = -lf x) (hp : rawR (xxOf Y).val % 2 ≠ b) : lf h = signX Y b := by
 unfold signX; rw [if_neg hp, hn, lf_of hx (rawR_lt _)]
theorem parse_ok {s : ByteArray} (hs : s.size = 32) {Y : F} (hY : Y.val = num s % 2 ^ 255) {x y i t : Nat → Nat} (lx : Lim 2 x) (ly : Lim 2 y) (li : Lim 2 i) (lt : Lim 2 t) (hx : lf x = signX Y (num s / 2 ^ 255)) (hy : lf y = Y) (hi : lf i = 1) (ht : lf t = lf x * lf y)
   (hr : (rtN (xxOf Y).val).2 = true) (hz : num s / 2 ^ 255 = 1 → rawR (xxOf Y).val ≠ 0) : ∃ p, encP p = s ∧ PR x y i t p :=
 ⟨decP Y _ hr, enc_dec hs hY hr hz, lx, ly, li, lt, ⟨by rw [hi]; exact one_ne, by rw [hi, hx]; show _ = signX Y _ * 1; grind, by rw [hi, hy]; show Y = Y * 1; grind⟩, by rw [hi, ht]; grind⟩
set_option maxRecDepth 100000 in
set_option maxHeartbeats 4000000 in
theorem parse_any (s : ByteArray) (w : World) :
   Calls Tryz.prog 28 #[.string s] w fun e w' => ((∃ p x y z t, e = .returned (.tuple #[.agg (pcell x y z t), .bool true]) ∧ encP p = s ∧ PR x y z t p) ∨ (e = .returned (.tuple #[.agg (pcell f0 f0 f0 f0), .bool false]) ∧ NoP s)) ∧ Gr w w' := by
 have hz := zeroP
 obtain ⟨W0, hW0⟩ : ∃ W, W = w.alloc (.cells (pcell f0 f0 f0 f0) 58) := ⟨_, rfl⟩
 have g0 : W0.heap[w.heap.size]? = some (.cells (pcell f0 f0 f0 f0) 58 (0, 0)) := by rw [hW0]; exact heap_alloc_new _ _
 have GR := Box.mk g0; have B0 := Box.mk (show Gr w W0 from by rw [hW0]; exact Gr.alloc _ _)
 clear g0
 obtain ⟨br, hbr⟩ : ∃ b, b = w.heap.size := ⟨_, rfl⟩
 have hgr : w.heap.size ≤ br := by omega
 rw [← hbr] at GR
 by_cases hs : s.size = 32
 ·
   have hsI : (s.size : Int) = 32 := by omega
   have hlt : 31 < s.size := by omega
   have HS := Box.mk hs
   obtain ⟨q, hq⟩ : ∃ q, q = s[31].toNat := ⟨_, rfl⟩
   have HQ := Box.mk hq
   clear hq
   go_enter Tryz.func28, Tryz.ntmps28
   go_upto_region 1 with (fail)
   rw [← hW0, ← hbr]
   clear hW0 hz hbr
   go_upto_region 4 with (fail)
   obtain ⟨od, hod⟩ : ∃ od, od = decide ((128 : Int) ≤ (s[31].toNat : Int)) := ⟨_, rfl⟩
   rw [← hod]
   have OD := Box.mk (show od = decide (num s / 2 ^ 255 = 1) from by rw [hod, sgn_byte HS.out]; have := s[31].toNat_lt; congr 1; rw [eq_iff_iff]; omega)
   clear hod
   obtain ⟨y, hy⟩ : ∃ y, y = ofN (num s) := ⟨_, rfl⟩
   have hfrom := from_any s HS.out
   rw [← hy] at hfrom
   have LY := Box.mk (show Lim 2 y from by rw [hy]; exact (ofN_lim _).two)
   have VY := Box.mk (show lv y = num s % 2 ^ 255 from by rw [hy]; exact ofN_lv _)
   clear hy
   refine wp_region_seq 3 [.flo, .cha, .new (.cells (ecell f0) 56)] (by rfl) rfl (by decide) ?_
   simp only [List.take, List.zip, List.zipWith]
   refine gm_move (.tmp 0) (.inl rfl) (.string s) rfl ?_
   try go_frame
   refine gm_call [.string s] (by kernel_rfl) rfl rfl Stb.tt (fun w1 hw1 _ => (hfrom w1).mono ?_)
   rintro e w2 ⟨rfl, hw2⟩
   refine ⟨_, rfl, Gr.of hw2, ?_⟩
   try go_frame
   refine gm_alloc rfl (.cells (ecell f0) 56) (fun _ => by kernel_rfl) (fun bY hbY _ => ?_)
   try go_frame
   refine gm_nil ?_
   intro w7 hw7 hF7
   simp only [List.drop]
   try go_frame
   have nRY : br ≠ bY := Nat.ne_of_lt (Nat.lt_of_lt_of_le (Gr.blt GR.out) hbY)
   have HN0 := Box.mk (show w7.heap[bY]? = some (.cells (ecell f0) 56 (0, 0)) from hF7.2)
   obtain ⟨W1, hWn⟩ : ∃ W, W = w7.setRow bY (ecell y) := ⟨_, rfl⟩
   go_upto_region 5 with ((with_reducible refine wpList_storeE rfl (.tmp 5) (.tmp 19) rfl bY y f0 HN0.out ?_ ?_ ?_); rfl; rfl)
   try go_frame
   rw [← hWn]
   have hgn : Gr W0 W1 := by rw [hWn]; exact hw7.setRow hbY _
   replace GR := Box.mk (hgn.block GR.out)
   have GY := Box.mk (show W1.heap[bY]? = some (.cells (ecell y) 56 (0, 0)) from by rw [hWn]; exact setRow_heap _ _ _ _ _ _ HN0.out)
   replace B0 := Box.mk (B0.out.trans hgn)
   clear hWn hgn hF7 hw7 HN0 hbY
   clear hfrom
   have hq8 : q < 256 := by rw [HQ.out]; exact s[31].toNat_lt
   refine wp_region_mix 8 [.flo, .flo, .flo, .flo, .flo, .cha, .cha, .flo] (by kernel_rfl) (by kernel_rfl) rfl ?_
   simp only [List.take, List.zip, List.zipWith]
   refine gm_move (.tmp 0) (.inl rfl) (.string s) rfl ?_
   try go_frame
   refine gm_slice (.tmp 20) none (some (.const (.int .i64 31))) none rfl (.string (s.extract 0 31)) (run_cut31 HS.out) ?_
   try go_frame
   refine gm_move (.tmp 0) (.inl rfl) (.string s) rfl ?_
   try go_frame
   refine gm_index (.tmp 22) (.const (.int .i64 31)) rfl (.int .u8 (q : Int)) (by rw [HQ.out]; exact run_at31 HS.out) ?_
   try go_frame
   refine gm_bin (.tmp 23) (.const (.int .u8 127)) rfl (.int .u8 ((q % 128 : Nat) : Int)) (fun _ _ => rfl) (run_and127 q hq8) ?_
   try go_frame
   refine gm_one (.tmp 24) rfl _ rfl (run_one _ ⟨_, _, rfl⟩) Stb.tt (fun b1 hb1 => ?_)
   try go_frame
   refine gm_conv (.tmp 25) rfl (.string ⟨[UInt8.ofNat (q % 128)].toArray⟩) (Stb.tt.new _ _) (fun wc hwc hFc => run_str_at Tryz.prog wc b1 0 1 [UInt8.ofNat (q % 128)] 29 9 5 1 rfl Tryz.underlying29 Tryz.underlying5 Tryz.underlying9 (fun j u hj => ?_)) ?_
   · match j, hj with
     | 0, hj =>
       simp at hj; subst hj
       rw [cell_of_row _ _ _ _ _ _ hFc.2]
       show some (Value.int .u8 ((q % 128 : Nat) : Int)) = some (Value.int .u8 (((UInt8.ofNat (q % 128)).toNat : Nat) : Int))
       congr 2
       rw [UInt8.toNat_ofNat']; omega
   try go_frame
   have hpl : s.extract 0 31 ++ ⟨[UInt8.ofNat (q % 128)].toArray⟩ = sbytes (num s % 2 ^ 255) := plain_eq HS.out _ (by rw [UInt8.toNat_ofNat', ← HQ.out]; omega)
   obtain ⟨pl, hpl2⟩ : ∃ pl, pl = sbytes (num s % 2 ^ 255) := ⟨_, rfl⟩
   refine gm_bin (.tmp 21) (.tmp 26) rfl (.string pl) (fun _ _ => rfl) (fun w' => ?_) ?_
   · rw [hpl2, ← hpl]; exact run_string_add_sum _ _ _ (by have := congrArg ByteArray.size hpl; rw [ByteArray.size_append, sbytes_size] at this; omega)
   try go_frame
   refine gm_nil ?_
   intro W2 hw7 _
   simp only [List.drop]
   try go_frame
   have PL := Box.mk hpl2
   replace GR := Box.mk (hw7.block GR.out); replace GY := Box.mk (hw7.block GY.out); replace B0 := Box.mk (B0.out.trans (Gr.trans (show Gr W1 W1.drew from (Below.refl _ _).drew) hw7))
   clear hpl hpl2 hw7 hq8
   go_upto_region 6 with (fail)
   by_cases hb : num s % 2 ^ 255 < fp
   ·
     have hbytes := bytes_any y LY.out.zero
     rw [VY.out, Nat.mod_eq_of_lt hb, ← PL.out] at hbytes
     obtain ⟨Y, hY⟩ : ∃ Y, Y = lf y := ⟨_, rfl⟩
     have YV := Box.mk (show Y.val = num s % 2 ^ 255 from by rw [hY]; unfold lf; rw [fv_val, VY.out]; exact Nat.mod_eq_of_lt hb)
     have YE := Box.mk hY
     clear hb hY
     refine wp_region_seq 3 [.flo, .cha, .flo] (by rfl) rfl (by decide) ?_
     simp only [List.take, List.zip, List.zipWith]
     refine gm_loadE (.tmp 5) rfl bY y GY.out rfl ?_
     try go_frame
     refine gm_call [.agg (ecell y)] (by kernel_rfl) rfl rfl Stb.tt (fun w1 hw1 _ => (hbytes w1).mono ?_)
     rintro e w2 ⟨rfl, hw2⟩
     refine ⟨_, rfl, Gr.of hw2, ?_⟩
     try go_frame
     refine gm_move (.tmp 6) (.inl rfl) (.string pl) rfl ?_
     try go_frame
     refine gm_nil ?_
     intro W3 hw7 _
     simp only [List.drop]
     try go_frame
     have hgn := hw7
     replace GR := Box.mk (hgn.block GR.out); replace GY := Box.mk (hgn.block GY.out); replace B0 := Box.mk (B0.out.trans hw7)
     clear hw7 hgn hbytes
     go_upto_region 8 with (fail)
     try go_frame
     obtain ⟨i1, hi1⟩ : ∃ i, i = smF 1 := ⟨_, rfl⟩
     have hone := small_any 1 (by omega)
     rw [← hi1] at hone
     have LI := Box.mk (show Lim 2 i1 from by rw [hi1]; exact (smF_lim 1 (by omega)).two)
     have VI := Box.mk (show lf i1 = 1 from by rw [hi1]; unfold lf; rw [smF_lv]; rfl)
     clear hi1
     refine wp_region_seq 2 [.cha, .new (.cells (ecell f0) 56)] (by rfl) rfl (by decide) ?_
     simp only [List.take, List.zip, List.zipWith]
     refine gm_call [.int .u64 1] (by kernel_rfl) rfl rfl Stb.tt (fun w1 hw1 _ => (hone w1).mono ?_)
     rintro e w2 ⟨rfl, hw2⟩
     refine ⟨_, rfl, Gr.of hw2, ?_⟩
     try go_frame
     refine gm_alloc rfl (.cells (ecell f0) 56) (fun _ => by kernel_rfl) (fun bI hbI _ => ?_)
     try go_frame
     refine gm_nil ?_
     intro w7 hw7 hF7
     simp only [List.drop]
     try go_frame
     have HN0 := Box.mk (show w7.heap[bI]? = some (.cells (ecell f0) 56 (0, 0)) from hF7.2)
     obtain ⟨W4, hWn⟩ : ∃ W, W = w7.setRow bI (ecell i1) := ⟨_, rfl⟩
     go_upto_region 9 with ((with_reducible refine wpList_storeE rfl (.tmp 7) (.tmp 33) rfl bI i1 f0 HN0.out ?_ ?_ ?_); rfl; rfl)
     try go_frame
     rw [← hWn]
     have hgn : Gr W3 W4 := by rw [hWn]; exact hw7.setRow hbI _
     replace GR := Box.mk (hgn.block GR.out); replace GY := Box.mk (hgn.block GY.out)
     have GI := Box.mk (show W4.heap[bI]? = some (.cells (ecell i1) 56 (0, 0)) from by rw [hWn]; exact setRow_heap _ _ _ _ _ _ HN0.out)
     replace B0 := Box.mk (B0.out.trans hgn)
     clear hWn hgn hF7 hw7 HN0 hbI
     clear hone
     refine wp_region_seq 4 [.flo, .flo, .cha, .new (.cells (ecell f0) 56)] (by rfl) rfl (by decide) ?_
     simp only [List.take, List.zip, List.zipWith]
     refine gm_loadE (.tmp 5) rfl bY y GY.out rfl ?_
     try go_frame
     refine gm_loadE (.tmp 5) rfl bY y GY.out rfl ?_
     try go_frame
     refine gm_call [.agg (ecell y), .agg (ecell y)] (by kernel_rfl) rfl rfl Stb.tt (fun w1 hw1 _ => (mulV y y LY.out LY.out w1).mono ?_)
     rintro e w2 ⟨yy, rfl, hl, hv, hw2⟩
     refine ⟨_, rfl, Gr.of hw2, ?_⟩
     try go_frame
     have Lyy := Box.mk hl; have Vyy := Box.mk (show lf yy = Y * Y from by rw [hv, ← YE.out])
     clear hl hv
     refine gm_alloc rfl (.cells (ecell f0) 56) (fun _ => by kernel_rfl) (fun bS hbS _ => ?_)
     try go_frame
     refine gm_nil ?_
     intro w7 hw7 hF7
     simp only [List.drop]
     try go_frame
     have HN0 := Box.mk (show w7.heap[bS]? = some (.cells (ecell f0) 56 (0, 0)) from hF7.2)
     obtain ⟨W5, hWn⟩ : ∃ W, W = w7.setRow bS (ecell yy) := ⟨_, rfl⟩
     go_upto_region 10 with ((with_reducible refine wpList_storeE rfl (.tmp 8) (.tmp 36) rfl bS yy f0 HN0.out ?_ ?_ ?_); rfl; rfl)
     try go_frame
     rw [← hWn]
     have hgn : Gr W4 W5 := by rw [hWn]; exact hw7.setRow hbS _
     replace GR := Box.mk (hgn.block GR.out); replace GY := Box.mk (hgn.block GY.out); replace GI := Box.mk (hgn.block GI.out)
     have GS := Box.mk (show W5.heap[bS]? = some (.cells (ecell yy) 56 (0, 0)) from by rw [hWn]; exact setRow_heap _ _ _ _ _ _ HN0.out)
     replace B0 := Box.mk (B0.out.trans hgn)
     clear hWn hgn hF7 hw7 HN0 hbS
     refine wp_region_mix 16 [.flo, .flo, .cha, .flo, .cha, .cha, .flo, .cha, .cha, .cha, .cha, .flo, .flo, .flo, .new (.cells (ecell f0) 56), .cha] (by kernel_rfl) (by kernel_rfl) rfl ?_
     simp only [List.take, List.zip, List.zipWith]
     refine gm_loadE (.tmp 8) rfl bS yy GS.out rfl ?_
     try go_frame
     refine gm_loadE (.tmp 7) rfl bI i1 GI.out rfl ?_
     try go_frame
     refine gm_call [.agg (ecell yy), .agg (ecell i1)] (by kernel_rfl) rfl rfl Stb.tt (fun w1 hw1 _ => (subV yy i1 Lyy.out LI.out w1).mono ?_)
     rintro e w2 ⟨u1, rfl, hl, hv, hw2⟩
     refine ⟨_, rfl, Gr.of hw2, ?_⟩
     try go_frame
     have Lu1 := Box.mk hl; have Vu1 := Box.mk (show lf u1 = Y * Y - 1 from by rw [hv, Vyy.out, VI.out])
     clear hl hv
     refine gm_loadE (.tmp 8) rfl bS yy GS.out rfl ?_
     try go_frame
     refine gm_call [] (by kernel_rfl) rfl rfl Stb.tt (fun w1 hw1 _ => (d_any w1).mono ?_)
     rintro e w2 ⟨rfl, hw2⟩
     refine ⟨_, rfl, Gr.of hw2, ?_⟩
     try go_frame
     refine gm_call [.agg (ecell yy), .agg (ecell dE)] (by kernel_rfl) rfl rfl Stb.tt (fun w1 hw1 _ => (mulV yy dE Lyy.out dE_lim w1).mono ?_)
     rintro e w2 ⟨u2, rfl, hl, hv, hw2⟩
     refine ⟨_, rfl, Gr.of hw2, ?_⟩
     try go_frame
     have Lu2 := Box.mk hl; have Vu2 := Box.mk (show lf u2 = Y * Y * cd from by rw [hv, Vyy.out, dE_lf])
     clear hl hv
     refine gm_loadE (.tmp 7) rfl bI i1 GI.out rfl ?_
     try go_frame
     refine gm_call [.agg (ecell u2), .agg (ecell i1)] (by kernel_rfl) rfl rfl Stb.tt (fun w1 hw1 _ => (addV u2 i1 Lu2.out LI.out w1).mono ?_)
     rintro e w2 ⟨u3, rfl, hl, hv, hw2⟩
     refine ⟨_, rfl, Gr.of hw2, ?_⟩
     try go_frame
     have Lu3 := Box.mk hl; have Vu3 := Box.mk (show lf u3 = Y * Y * cd + 1 from by rw [hv, Vu2.out, VI.out])
     clear hl hv
     refine gm_call [.agg (ecell u3)] (by kernel_rfl) rfl rfl Stb.tt (fun w1 hw1 _ => (invV u3 Lu3.out w1).mono ?_)
     rintro e w2 ⟨u4, rfl, hl, hv, hw2⟩
     refine ⟨_, rfl, Gr.of hw2, ?_⟩
     try go_frame
     have Lu4 := Box.mk hl; have Vu4 := Box.mk (show lf u4 = fi (Y * Y * cd + 1) from by rw [hv, Vu3.out])
     clear hl hv
     refine gm_call [.agg (ecell u1), .agg (ecell u4)] (by kernel_rfl) rfl rfl Stb.tt (fun w1 hw1 _ => (mulV u1 u4 Lu1.out Lu4.out w1).mono ?_)
     rintro e w2 ⟨u5, rfl, hl, hv, hw2⟩
     refine ⟨_, rfl, Gr.of hw2, ?_⟩
     try go_frame
     have Lu5 := Box.mk hl; have Vu5 := Box.mk (show lf u5 = xxOf Y from by rw [hv, Vu1.out, Vu4.out, xxOf])
     clear hl hv
     refine gm_call [.agg (ecell u5)] (by kernel_rfl) rfl rfl Stb.tt (fun w1 hw1 _ => (root_any u5 Lu5.out w1).mono ?_)
     rintro e w2 ⟨x, rfl, hl, hv, hw2⟩
     refine ⟨_, rfl, Gr.of hw2, ?_⟩
     try go_frame
     have hxx : lv u5 % fp = (xxOf Y).val := by rw [← Vu5.out]; rfl
     rw [hxx] at hv ⊢
     have LX := Box.mk hl; have VX := Box.mk hv
     clear hl hv hxx
     obtain ⟨ok, hok⟩ : ∃ ok, ok = (rtN (xxOf Y).val).2 := ⟨_, rfl⟩
     rw [← hok]
     have OK := Box.mk hok
     clear hok
     refine gm_move (.tmp 48) (.inl rfl) (.tuple #[.agg (ecell x), .bool ok]) rfl ?_
     try go_frame
     refine gm_extract (vs := #[.agg (ecell x), .bool ok]) (.tmp 37) 0 rfl rfl (.agg (ecell x)) rfl ?_
     try go_frame
     refine gm_extract (vs := #[.agg (ecell x), .bool ok]) (.tmp 37) 1 rfl rfl (.bool ok) rfl ?_
     try go_frame
     refine gm_alloc rfl (.cells (ecell f0) 56) (fun _ => by kernel_rfl) (fun bX hbX _ => ?_)
     try go_frame
     have NE := Box.mk (show br ≠ bX ∧ bY ≠ bX ∧ bI ≠ bX ∧ w.heap.size ≤ bX from ⟨Nat.ne_of_lt (Nat.lt_of_lt_of_le (Gr.blt GR.out) hbX), Nat.ne_of_lt (Nat.lt_of_lt_of_le (Gr.blt GY.out) hbX), Nat.ne_of_lt (Nat.lt_of_lt_of_le (Gr.blt GI.out) hbX), Nat.le_trans B0.out.size hbX⟩)
     refine gm_storeN (.tmp 9) (.tmp 49) rfl bX (ecell f0) (ecell x) 56 rfl rfl List.mem_cons_self rfl (by kernel_rfl) rfl (ecell_one x) (fun _ => True) (fun w h => ⟨trivial, h.2⟩) Stb.tt (fun _ _ => trivial) ?_
     try go_frame
     refine gm_nil ?_
     intro W6 hw7 hF7
     simp only [List.drop]
     try go_frame
     have hgn := hw7
     replace GR := Box.mk (hgn.block GR.out); replace GY := Box.mk (hgn.block GY.out); replace GI := Box.mk (hgn.block GI.out)
     have GX := Box.mk hF7.2
     replace B0 := Box.mk (B0.out.trans (Gr.trans (show Gr W5 W5.drew from (Below.refl _ _).drew) hw7))
     clear hw7 hgn hF7
     go_upto_region 11 with (fail)
     cases ok
     ·
       go_upto_region 12 with (fail)
       try go_frame
       refine wp_region_seq 1 [.flo] (by rfl) rfl (by decide) ?_
       simp only [List.take, List.zip, List.zipWith]
       refine gm_build [] rfl rfl _ build0 ?_
       try go_frame
       refine gm_nil ?_
       intro w7 hw7 _
       simp only [List.drop]
       try go_frame
       replace GR := Box.mk (hw7.block GR.out); replace B0 := Box.mk (B0.out.trans hw7)
       clear hw7
       go_wp2_with ((with_reducible refine wpList_storeP rfl (.tmp 2) (.tmp 63) rfl br f0 f0 f0 f0 (pcell f0 f0 f0 f0) rfl GR.out ?_ ?_ ?_); rfl; rfl)
       exact bodyPost_ret (results_row_tmp (p := 2) (q := 3) (ty := 58) rfl _ _ br 58 (pcell f0 f0 f0 f0) _ _ rfl (setRow_heap _ _ _ _ _ _ GR.out) rfl Tryz.underlying58 rfl (by kernel_rfl)) rfl ⟨.inr ⟨rfl, no_root' HS.out YV.out OK.out.symm⟩, B0.out.setRow hgr _⟩
     ·
       cases od
       ·
         have hnb : num s / 2 ^ 255 = 0 := by
           have h1 := num_lt32 HS.out
           have h2 : (256 : Nat) ^ 32 = 2 ^ 256 := rfl
           have h3 := OD.out
           have h4 : ¬ num s / 2 ^ 255 = 1 := by simpa using h3
           omega
         have NB := Box.mk hnb
         have HZ := Box.mk (show num s / 2 ^ 255 = 1 → rawR (xxOf Y).val ≠ 0 from fun h => by omega)
         clear hnb
         go_upto_region 13 with (fail)
         try go_frame
         rcases Nat.mod_two_eq_zero_or_one (rawR (xxOf Y).val) with hpar | hpar
         ·
           have hodd : oddB (lv x % fp) = false := by rw [VX.out]; unfold oddB; rw [hpar]; rfl
           have HP := Box.mk hpar
           have hoddc := odd_any x LX.out.zero
           rw [hodd] at hoddc
           clear hodd hpar
           refine wp_region_seq 2 [.flo, .cha] (by rfl) rfl (by decide) ?_
           simp only [List.take, List.zip, List.zipWith]
           refine gm_loadE (.tmp 9) rfl bX x GX.out rfl ?_
           try go_frame
           refine gm_call [.agg (ecell x)] (by kernel_rfl) rfl rfl Stb.tt (fun w1 hw1 _ => (hoddc w1).mono ?_)
           rintro e w2 ⟨rfl, hw2⟩
           refine ⟨_, rfl, Gr.of hw2, ?_⟩
           try go_frame
           refine gm_nil ?_
           intro W7 hw7 _
           simp only [List.drop]
           try go_frame
           have hgn := hw7
           replace GR := Box.mk (hgn.block GR.out); replace GY := Box.mk (hgn.block GY.out); replace GI := Box.mk (hgn.block GI.out); replace GX := Box.mk (hgn.block GX.out)
           replace B0 := Box.mk (B0.out.trans hw7)
           clear hw7 hgn hoddc
           go_upto_region 15 with (fail)
           try go_frame
           refine wp_region_mix 7 [.flo, .flo, .flo, .flo, .flo, .cha, .flo] (by kernel_rfl) (by kernel_rfl) rfl ?_
           simp only [List.take, List.zip, List.zipWith]
           refine gm_loadE (.tmp 9) rfl bX x GX.out rfl ?_
           try go_frame
           refine gm_loadE (.tmp 5) rfl bY y GY.out rfl ?_
           try go_frame
           refine gm_loadE (.tmp 7) rfl bI i1 GI.out rfl ?_
           try go_frame
           refine gm_loadE (.tmp 9) rfl bX x GX.out rfl ?_
           try go_frame
           refine gm_loadE (.tmp 5) rfl bY y GY.out rfl ?_
           try go_frame
           refine gm_call [.agg (ecell x), .agg (ecell y)] (by kernel_rfl) rfl rfl Stb.tt (fun w1 hw1 _ => (mulV x y LX.out LY.out w1).mono ?_)
           rintro e w2 ⟨t, rfl, hl, hv, hw2⟩
           refine ⟨_, rfl, Gr.of hw2, ?_⟩
           try go_frame
           have LT := Box.mk hl; have VT := Box.mk hv
           clear hl hv
           refine gm_build [(0, .agg (ecell x)), (1, .agg (ecell y)), (2, .agg (ecell i1)), (3, .agg (ecell t))] rfl rfl _ (build4 x y i1 t) ?_
           try go_frame
           refine gm_nil ?_
           intro w9 hw7 _
           simp only [List.drop]
           try go_frame
           replace GR := Box.mk (hw7.block GR.out); replace B0 := Box.mk (B0.out.trans (Gr.trans (show Gr W7 W7.drew from (Below.refl _ _).drew) hw7))
           clear hw7
           go_wp2_with ((with_reducible refine wpList_storeP rfl (.tmp 2) (.tmp 76) rfl br x y i1 t (pcell f0 f0 f0 f0) rfl GR.out ?_ ?_ ?_); rfl; rfl)
           obtain ⟨p, hp1, hp2⟩ := parse_ok HS.out YV.out LX.out LY.out LI.out LT.out (sign_keep VX.out (by rw [HP.out, NB.out])) YE.out.symm VI.out VT.out OK.out.symm HZ.out
           exact bodyPost_ret (results_row_tmp (p := 2) (q := 3) (ty := 58) rfl _ _ br 58 (pcell x y i1 t) _ _ rfl (setRow_heap _ _ _ _ _ _ GR.out) rfl Tryz.underlying58 rfl (by kernel_rfl)) rfl ⟨.inl ⟨p, x, y, i1, t, rfl, hp1, hp2⟩, B0.out.setRow hgr _⟩
         ·
           have hodd : oddB (lv x % fp) = true := by rw [VX.out]; unfold oddB; rw [hpar]; rfl
           have HP := Box.mk hpar
           have hoddc := odd_any x LX.out.zero
           rw [hodd] at hoddc
           clear hodd hpar
           refine wp_region_seq 2 [.flo, .cha] (by rfl) rfl (by decide) ?_
           simp only [List.take, List.zip, List.zipWith]
           refine gm_loadE (.tmp 9) rfl bX x GX.out rfl ?_
           try go_frame
           refine gm_call [.agg (ecell x)] (by kernel_rfl) rfl rfl Stb.tt (fun w1 hw1 _ => (hoddc w1).mono ?_)
           rintro e w2 ⟨rfl, hw2⟩
           refine ⟨_, rfl, Gr.of hw2, ?_⟩
           try go_frame
           refine gm_nil ?_
           intro W7 hw7 _
           simp only [List.drop]
           try go_frame
           have hgn := hw7
           replace GR := Box.mk (hgn.block GR.out); replace GY := Box.mk (hgn.block GY.out); replace GI := Box.mk (hgn.block GI.out); replace GX := Box.mk (hgn.block GX.out)
           replace B0 := Box.mk (B0.out.trans hw7)
           clear hw7 hgn hoddc
           go_upto_region 14 with (fail)
           try go_frame
           refine wp_region_seq 2 [.flo, .cha] (by rfl) rfl (by decide) ?_
           simp only [List.take, List.zip, List.zipWith]
           refine gm_loadE (.tmp 9) rfl bX x GX.out rfl ?_
           try go_frame
           refine gm_call [.agg (ecell x)] (by kernel_rfl) rfl rfl Stb.tt (fun w1 hw1 _ => (neg_any x LX.out w1).mono ?_)
           rintro e w2 ⟨xn, rfl, hl, hv, hw2⟩
           refine ⟨_, rfl, Gr.of hw2, ?_⟩
           try go_frame
           have LN := Box.mk hl; have VN := Box.mk (lf_neg hv)
           clear hl hv
           refine gm_nil ?_
           intro w7 hw7 _
           simp only [List.drop]
           try go_frame
           replace B0 := Box.mk (B0.out.trans hw7)
           replace GR := Box.mk (hw7.block GR.out); replace GY := Box.mk (hw7.block GY.out); replace GI := Box.mk (hw7.block GI.out); replace GX := Box.mk (hw7.block GX.out)
           obtain ⟨W8, hWn⟩ : ∃ W, W = w7.setRow bX (ecell xn) := ⟨_, rfl⟩
           go_upto_region 15 with ((with_reducible refine wpList_storeE rfl (.tmp 9) (.tmp 69) rfl bX xn x GX.out ?_ ?_ ?_); rfl; rfl)
           try go_frame
           rw [← hWn]
           replace GX := Box.mk (show W8.heap[bX]? = some (.cells (ecell xn) 56 (0, 0)) from by rw [hWn]; exact setRow_heap _ _ _ _ _ _ GX.out)
           replace GR := Box.mk (show W8.heap[br]? = some (.cells (pcell f0 f0 f0 f0) 58 (0, 0)) from by rw [hWn, setRow_other _ _ _ _ (NE.out.1)]; exact GR.out)
           replace GY := Box.mk (show W8.heap[bY]? = some (.cells (ecell y) 56 (0, 0)) from by rw [hWn, setRow_other _ _ _ _ (NE.out.2.1)]; exact GY.out)
           replace GI := Box.mk (show W8.heap[bI]? = some (.cells (ecell i1) 56 (0, 0)) from by rw [hWn, setRow_other _ _ _ _ (NE.out.2.2.1)]; exact GI.out)
           replace B0 := Box.mk (show Gr w W8 from by rw [hWn]; exact B0.out.setRow NE.out.2.2.2 _)
           clear hWn hw7
           refine wp_region_mix 7 [.flo, .flo, .flo, .flo, .flo, .cha, .flo] (by kernel_rfl) (by kernel_rfl) rfl ?_
           simp only [List.take, List.zip, List.zipWith]
           refine gm_loadE (.tmp 9) rfl bX xn GX.out rfl ?_
           try go_frame
           refine gm_loadE (.tmp 5) rfl bY y GY.out rfl ?_
           try go_frame
           refine gm_loadE (.tmp 7) rfl bI i1 GI.out rfl ?_
           try go_frame
           refine gm_loadE (.tmp 9) rfl bX xn GX.out rfl ?_
           try go_frame
           refine gm_loadE (.tmp 5) rfl bY y GY.out rfl ?_
           try go_frame
           refine gm_call [.agg (ecell xn), .agg (ecell y)] (by kernel_rfl) rfl rfl Stb.tt (fun w1 hw1 _ => (mulV xn y LN.out LY.out w1).mono ?_)
           rintro e w2 ⟨t, rfl, hl, hv, hw2⟩
           refine ⟨_, rfl, Gr.of hw2, ?_⟩
           try go_frame
           have LT := Box.mk hl; have VT := Box.mk hv
           clear hl hv
           refine gm_build [(0, .agg (ecell xn)), (1, .agg (ecell y)), (2, .agg (ecell i1)), (3, .agg (ecell t))] rfl rfl _ (build4 xn y i1 t) ?_
           try go_frame
           refine gm_nil ?_
           intro w9 hw7 _
           simp only [List.drop]
           try go_frame
           replace GR := Box.mk (hw7.block GR.out); replace B0 := Box.mk (B0.out.trans (Gr.trans (show Gr W8 W8.drew from (Below.refl _ _).drew) hw7))
           clear hw7
           go_wp2_with ((with_reducible refine wpList_storeP rfl (.tmp 2) (.tmp 76) rfl br xn y i1 t (pcell f0 f0 f0 f0) rfl GR.out ?_ ?_ ?_); rfl; rfl)
           obtain ⟨p, hp1, hp2⟩ := parse_ok HS.out YV.out LN.out LY.out LI.out LT.out (sign_neg VX.out VN.out (by rw [HP.out, NB.out]; decide)) YE.out.symm VI.out VT.out OK.out.symm HZ.out
           exact bodyPost_ret (results_row_tmp (p := 2) (q := 3) (ty := 58) rfl _ _ br 58 (pcell xn y i1 t) _ _ rfl (setRow_heap _ _ _ _ _ _ GR.out) rfl Tryz.underlying58 rfl (by kernel_rfl)) rfl ⟨.inl ⟨p, xn, y, i1, t, rfl, hp1, hp2⟩, B0.out.setRow hgr _⟩
       ·
         have NB := Box.mk (show num s / 2 ^ 255 = 1 from by have h3 := OD.out; simpa using h3.symm)
         by_cases hz : rawR (xxOf Y).val = 0
         ·
           obtain ⟨zs, hzs0⟩ : ∃ z, z = sbytes 0 := ⟨_, rfl⟩
           have ZS := Box.mk hzs0
           clear hzs0
           have hxs := bytes_any x LX.out.zero
           rw [VX.out, hz, ← ZS.out] at hxs
           have hzs : ∀ w, Calls Tryz.prog 56 #[.agg (ecell f0)] w fun e w' => e = .returned (.string zs) ∧ Below w.heap.size w w' := fun w => by have := bytes_any f0 f0_lim.two.zero w; rwa [f0_lv, Nat.zero_mod, ← ZS.out] at this
           go_wp2_with ((with_reducible refine wpList_loadEG (.tmp 9) rfl bX x GX.out ?_ ?_ ?_); rfl; rfl)
           refine (hxs _).mono ?_
           rintro e w7 ⟨rfl, hw7⟩
           replace hw7 := Gr.of hw7
           have hgn := hw7
           replace GR := Box.mk (hgn.block GR.out); replace GY := Box.mk (hgn.block GY.out); replace GI := Box.mk (hgn.block GI.out); replace GX := Box.mk (hgn.block GX.out)
           replace B0 := Box.mk (B0.out.trans hw7)
           clear hw7 hgn hxs
           go_wp2_with fail
           refine (hzs _).mono ?_
           rintro e w8 ⟨rfl, hw7⟩
           replace hw7 := Gr.of hw7
           have hgn := hw7
           replace GR := Box.mk (hgn.block GR.out); replace GY := Box.mk (hgn.block GY.out); replace GI := Box.mk (hgn.block GI.out); replace GX := Box.mk (hgn.block GX.out)
           replace B0 := Box.mk (B0.out.trans hw7)
           clear hw7 hgn hzs
           go_upto_region 12 with (fail)
           try go_frame
           refine wp_region_seq 1 [.flo] (by rfl) rfl (by decide) ?_
           simp only [List.take, List.zip, List.zipWith]
           refine gm_build [] rfl rfl _ build0 ?_
           try go_frame
           refine gm_nil ?_
           intro w7 hw7 _
           simp only [List.drop]
           try go_frame
           replace GR := Box.mk (hw7.block GR.out); replace B0 := Box.mk (B0.out.trans hw7)
           clear hw7
           go_wp2_with ((with_reducible refine wpList_storeP rfl (.tmp 2) (.tmp 63) rfl br f0 f0 f0 f0 (pcell f0 f0 f0 f0) rfl GR.out ?_ ?_ ?_); rfl; rfl)
           exact bodyPost_ret (results_row_tmp (p := 2) (q := 3) (ty := 58) rfl _ _ br 58 (pcell f0 f0 f0 f0) _ _ rfl (setRow_heap _ _ _ _ _ _ GR.out) rfl Tryz.underlying58 rfl (by kernel_rfl)) rfl ⟨.inr ⟨rfl, no_zero HS.out YV.out OK.out.symm hz NB.out⟩, B0.out.setRow hgr _⟩
         ·
           have HZ := Box.mk (show num s / 2 ^ 255 = 1 → rawR (xxOf Y).val ≠ 0 from fun _ => hz)
           obtain ⟨zs, hzs0⟩ : ∃ z, z = sbytes 0 := ⟨_, rfl⟩
           have ZS := Box.mk hzs0
           clear hzs0
           have hxs := bytes_any x LX.out.zero
           rw [VX.out] at hxs
           obtain ⟨xs, hxs0⟩ : ∃ z, z = sbytes (rawR (xxOf Y).val) := ⟨_, rfl⟩
           rw [← hxs0] at hxs
           have hne : (xs.toList == zs.toList) = false := seq_no (fun h => hz (sbytes_inj (Nat.lt_of_lt_of_le (rawR_lt _) (by rw [fp_eq]; decide)) (by decide) (by rw [← hxs0, h, ZS.out])))
           clear hxs0 hz
           have hzs : ∀ w, Calls Tryz.prog 56 #[.agg (ecell f0)] w fun e w' => e = .returned (.string zs) ∧ Below w.heap.size w w' := fun w => by have := bytes_any f0 f0_lim.two.zero w; rwa [f0_lv, Nat.zero_mod, ← ZS.out] at this
           go_wp2_with ((with_reducible refine wpList_loadEG (.tmp 9) rfl bX x GX.out ?_ ?_ ?_); rfl; rfl)
           refine (hxs _).mono ?_
           rintro e w7 ⟨rfl, hw7⟩
           replace hw7 := Gr.of hw7
           have hgn := hw7
           replace GR := Box.mk (hgn.block GR.out); replace GY := Box.mk (hgn.block GY.out); replace GI := Box.mk (hgn.block GI.out); replace GX := Box.mk (hgn.block GX.out)
           replace B0 := Box.mk (B0.out.trans hw7)
           clear hw7 hgn hxs
           go_wp2_with fail
           refine (hzs _).mono ?_
           rintro e w8 ⟨rfl, hw7⟩
           replace hw7 := Gr.of hw7
           have hgn := hw7
           replace GR := Box.mk (hgn.block GR.out); replace GY := Box.mk (hgn.block GY.out); replace GI := Box.mk (hgn.block GI.out); replace GX := Box.mk (hgn.block GX.out)
           replace B0 := Box.mk (B0.out.trans hw7)
           clear hw7 hgn hzs
           go_upto_region 13 with (fail)
           try go_frame
           clear hne
           rcases Nat.mod_two_eq_zero_or_one (rawR (xxOf Y).val) with hpar | hpar
           ·
             have hodd : oddB (lv x % fp) = false := by rw [VX.out]; unfold oddB; rw [hpar]; rfl
             have HP := Box.mk hpar
             have hoddc := odd_any x LX.out.zero
             rw [hodd] at hoddc
             clear hodd hpar
             refine wp_region_seq 2 [.flo, .cha] (by rfl) rfl (by decide) ?_
             simp only [List.take, List.zip, List.zipWith]
             refine gm_loadE (.tmp 9) rfl bX x GX.out rfl ?_
             try go_frame
             refine gm_call [.agg (ecell x)] (by kernel_rfl) rfl rfl Stb.tt (fun w1 hw1 _ => (hoddc w1).mono ?_)
             rintro e w2 ⟨rfl, hw2⟩
             refine ⟨_, rfl, Gr.of hw2, ?_⟩
             try go_frame
             refine gm_nil ?_
             intro W7 hw7 _
             simp only [List.drop]
             try go_frame
             have hgn := hw7
             replace GR := Box.mk (hgn.block GR.out); replace GY := Box.mk (hgn.block GY.out); replace GI := Box.mk (hgn.block GI.out); replace GX := Box.mk (hgn.block GX.out)
             replace B0 := Box.mk (B0.out.trans hw7)
             clear hw7 hgn hoddc
             go_upto_region 14 with (fail)
             try go_frame
             refine wp_region_seq 2 [.flo, .cha] (by rfl) rfl (by decide) ?_
             simp only [List.take, List.zip, List.zipWith]
             refine gm_loadE (.tmp 9) rfl bX x GX.out rfl ?_
             try go_frame
             refine gm_call [.agg (ecell x)] (by kernel_rfl) rfl rfl Stb.tt (fun w1 hw1 _ => (neg_any x LX.out w1).mono ?_)
             rintro e w2 ⟨xn, rfl, hl, hv, hw2⟩
             refine ⟨_, rfl, Gr.of hw2, ?_⟩
             try go_frame
             have LN := Box.mk hl; have VN := Box.mk (lf_neg hv)
             clear hl hv
             refine gm_nil ?_
             intro w7 hw7 _
             simp only [List.drop]
             try go_frame
             replace B0 := Box.mk (B0.out.trans hw7)
             replace GR := Box.mk (hw7.block GR.out); replace GY := Box.mk (hw7.block GY.out); replace GI := Box.mk (hw7.block GI.out); replace GX := Box.mk (hw7.block GX.out)
             obtain ⟨W8, hWn⟩ : ∃ W, W = w7.setRow bX (ecell xn) := ⟨_, rfl⟩
             go_upto_region 15 with ((with_reducible refine wpList_storeE rfl (.tmp 9) (.tmp 69) rfl bX xn x GX.out ?_ ?_ ?_); rfl; rfl)
             try go_frame
             rw [← hWn]
             replace GX := Box.mk (show W8.heap[bX]? = some (.cells (ecell xn) 56 (0, 0)) from by rw [hWn]; exact setRow_heap _ _ _ _ _ _ GX.out)
             replace GR := Box.mk (show W8.heap[br]? = some (.cells (pcell f0 f0 f0 f0) 58 (0, 0)) from by rw [hWn, setRow_other _ _ _ _ (NE.out.1)]; exact GR.out)
             replace GY := Box.mk (show W8.heap[bY]? = some (.cells (ecell y) 56 (0, 0)) from by rw [hWn, setRow_other _ _ _ _ (NE.out.2.1)]; exact GY.out)
             replace GI := Box.mk (show W8.heap[bI]? = some (.cells (ecell i1) 56 (0, 0)) from by rw [hWn, setRow_other _ _ _ _ (NE.out.2.2.1)]; exact GI.out)
             replace B0 := Box.mk (show Gr w W8 from by rw [hWn]; exact B0.out.setRow NE.out.2.2.2 _)
             clear hWn hw7
             refine wp_region_mix 7 [.flo, .flo, .flo, .flo, .flo, .cha, .flo] (by kernel_rfl) (by kernel_rfl) rfl ?_
             simp only [List.take, List.zip, List.zipWith]
             refine gm_loadE (.tmp 9) rfl bX xn GX.out rfl ?_
             try go_frame
             refine gm_loadE (.tmp 5) rfl bY y GY.out rfl ?_
             try go_frame
             refine gm_loadE (.tmp 7) rfl bI i1 GI.out rfl ?_
             try go_frame
             refine gm_loadE (.tmp 9) rfl bX xn GX.out rfl ?_
             try go_frame
             refine gm_loadE (.tmp 5) rfl bY y GY.out rfl ?_
             try go_frame
             refine gm_call [.agg (ecell xn), .agg (ecell y)] (by kernel_rfl) rfl rfl Stb.tt (fun w1 hw1 _ => (mulV xn y LN.out LY.out w1).mono ?_)
             rintro e w2 ⟨t, rfl, hl, hv, hw2⟩
             refine ⟨_, rfl, Gr.of hw2, ?_⟩
             try go_frame
             have LT := Box.mk hl; have VT := Box.mk hv
             clear hl hv
             refine gm_build [(0, .agg (ecell xn)), (1, .agg (ecell y)), (2, .agg (ecell i1)), (3, .agg (ecell t))] rfl rfl _ (build4 xn y i1 t) ?_
             try go_frame
             refine gm_nil ?_
             intro w9 hw7 _
             simp only [List.drop]
             try go_frame
             replace GR := Box.mk (hw7.block GR.out); replace B0 := Box.mk (B0.out.trans (Gr.trans (show Gr W8 W8.drew from (Below.refl _ _).drew) hw7))
             clear hw7
             go_wp2_with ((with_reducible refine wpList_storeP rfl (.tmp 2) (.tmp 76) rfl br xn y i1 t (pcell f0 f0 f0 f0) rfl GR.out ?_ ?_ ?_); rfl; rfl)
             obtain ⟨p, hp1, hp2⟩ := parse_ok HS.out YV.out LN.out LY.out LI.out LT.out (sign_neg VX.out VN.out (by rw [HP.out, NB.out]; decide)) YE.out.symm VI.out VT.out OK.out.symm HZ.out
             exact bodyPost_ret (results_row_tmp (p := 2) (q := 3) (ty := 58) rfl _ _ br 58 (pcell xn y i1 t) _ _ rfl (setRow_heap _ _ _ _ _ _ GR.out) rfl Tryz.underlying58 rfl (by kernel_rfl)) rfl ⟨.inl ⟨p, xn, y, i1, t, rfl, hp1, hp2⟩, B0.out.setRow hgr _⟩
           ·
             have hodd : oddB (lv x % fp) = true := by rw [VX.out]; unfold oddB; rw [hpar]; rfl
             have HP := Box.mk hpar
             have hoddc := odd_any x LX.out.zero
             rw [hodd] at hoddc
             clear hodd hpar
             refine wp_region_seq 2 [.flo, .cha] (by rfl) rfl (by decide) ?_
             simp only [List.take, List.zip, List.zipWith]
             refine gm_loadE (.tmp 9) rfl bX x GX.out rfl ?_
             try go_frame
             refine gm_call [.agg (ecell x)] (by kernel_rfl) rfl rfl Stb.tt (fun w1 hw1 _ => (hoddc w1).mono ?_)
             rintro e w2 ⟨rfl, hw2⟩
             refine ⟨_, rfl, Gr.of hw2, ?_⟩
             try go_frame
             refine gm_nil ?_
             intro W7 hw7 _
             simp only [List.drop]
             try go_frame
             have hgn := hw7
             replace GR := Box.mk (hgn.block GR.out); replace GY := Box.mk (hgn.block GY.out); replace GI := Box.mk (hgn.block GI.out); replace GX := Box.mk (hgn.block GX.out)
             replace B0 := Box.mk (B0.out.trans hw7)
             clear hw7 hgn hoddc
             go_upto_region 15 with (fail)
             try go_frame
             refine wp_region_mix 7 [.flo, .flo, .flo, .flo, .flo, .cha, .flo] (by kernel_rfl) (by kernel_rfl) rfl ?_
             simp only [List.take, List.zip, List.zipWith]
             refine gm_loadE (.tmp 9) rfl bX x GX.out rfl ?_
             try go_frame
             refine gm_loadE (.tmp 5) rfl bY y GY.out rfl ?_
             try go_frame
             refine gm_loadE (.tmp 7) rfl bI i1 GI.out rfl ?_
             try go_frame
             refine gm_loadE (.tmp 9) rfl bX x GX.out rfl ?_
             try go_frame
             refine gm_loadE (.tmp 5) rfl bY y GY.out rfl ?_
             try go_frame
             refine gm_call [.agg (ecell x), .agg (ecell y)] (by kernel_rfl) rfl rfl Stb.tt (fun w1 hw1 _ => (mulV x y LX.out LY.out w1).mono ?_)
             rintro e w2 ⟨t, rfl, hl, hv, hw2⟩
             refine ⟨_, rfl, Gr.of hw2, ?_⟩
             try go_frame
             have LT := Box.mk hl; have VT := Box.mk hv
             clear hl hv
             refine gm_build [(0, .agg (ecell x)), (1, .agg (ecell y)), (2, .agg (ecell i1)), (3, .agg (ecell t))] rfl rfl _ (build4 x y i1 t) ?_
             try go_frame
             refine gm_nil ?_
             intro w9 hw7 _
             simp only [List.drop]
             try go_frame
             replace GR := Box.mk (hw7.block GR.out); replace B0 := Box.mk (B0.out.trans (Gr.trans (show Gr W7 W7.drew from (Below.refl _ _).drew) hw7))
             clear hw7
             go_wp2_with ((with_reducible refine wpList_storeP rfl (.tmp 2) (.tmp 76) rfl br x y i1 t (pcell f0 f0 f0 f0) rfl GR.out ?_ ?_ ?_); rfl; rfl)
             obtain ⟨p, hp1, hp2⟩ := parse_ok HS.out YV.out LX.out LY.out LI.out LT.out (sign_keep VX.out (by rw [HP.out, NB.out])) YE.out.symm VI.out VT.out OK.out.symm HZ.out
             exact bodyPost_ret (results_row_tmp (p := 2) (q := 3) (ty := 58) rfl _ _ br 58 (pcell x y i1 t) _ _ rfl (setRow_heap _ _ _ _ _ _ GR.out) rfl Tryz.underlying58 rfl (by kernel_rfl)) rfl ⟨.inl ⟨p, x, y, i1, t, rfl, hp1, hp2⟩, B0.out.setRow hgr _⟩
   ·
     have hbytes := bytes_any y LY.out.zero
     obtain ⟨Yb, hYb⟩ : ∃ Yb, Yb = sbytes (lv y % fp) := ⟨_, rfl⟩
     rw [← hYb] at hbytes
     have hne : (Yb.toList == pl.toList) = false := seq_no (fun h => by
       rw [hYb, PL.out, VY.out] at h
       have h1 := Nat.mod_lt (num s % 2 ^ 255) fp_pos
       have h2 := sbytes_inj (mod_dw _) (Nat.lt_of_lt_of_le (Nat.mod_lt (num s) (by decide)) (by decide)) h
       omega)
     have HN := Box.mk (no_big HS.out (Nat.le_of_not_lt hb))
     clear hb hYb
     refine wp_region_seq 3 [.flo, .cha, .flo] (by rfl) rfl (by decide) ?_
     simp only [List.take, List.zip, List.zipWith]
     refine gm_loadE (.tmp 5) rfl bY y GY.out rfl ?_
     try go_frame
     refine gm_call [.agg (ecell y)] (by kernel_rfl) rfl rfl Stb.tt (fun w1 hw1 _ => (hbytes w1).mono ?_)
     rintro e w2 ⟨rfl, hw2⟩
     refine ⟨_, rfl, Gr.of hw2, ?_⟩
     try go_frame
     refine gm_move (.tmp 6) (.inl rfl) (.string pl) rfl ?_
     try go_frame
     refine gm_nil ?_
     intro W3 hw7 _
     simp only [List.drop]
     try go_frame
     have hgn := hw7
     replace GR := Box.mk (hgn.block GR.out); replace GY := Box.mk (hgn.block GY.out); replace B0 := Box.mk (B0.out.trans hw7)
     clear hw7 hgn hbytes
     go_upto_region 7 with (fail)
     try go_frame
     clear hne
     refine wp_region_seq 1 [.flo] (by rfl) rfl (by decide) ?_
     simp only [List.take, List.zip, List.zipWith]
     refine gm_build [] rfl rfl _ build0 ?_
     try go_frame
     refine gm_nil ?_
     intro w7 hw7 _
     simp only [List.drop]
     try go_frame
     replace GR := Box.mk (hw7.block GR.out); replace B0 := Box.mk (B0.out.trans hw7)
     clear hw7
     go_wp2_with ((with_reducible refine wpList_storeP rfl (.tmp 2) (.tmp 32) rfl br f0 f0 f0 f0 (pcell f0 f0 f0 f0) rfl GR.out ?_ ?_ ?_); rfl; rfl)
     exact bodyPost_ret (results_row_tmp (p := 2) (q := 3) (ty := 58) rfl _ _ br 58 (pcell f0 f0 f0 f0) _ _ rfl (setRow_heap _ _ _ _ _ _ GR.out) rfl Tryz.underlying58 rfl (by kernel_rfl)) rfl ⟨.inr ⟨rfl, HN.out⟩, B0.out.setRow hgr _⟩
 ·
   have hs' : ((s.size : Int) == 32) = false := by rw [beq_eq_false_iff_ne]; omega
   have HN := Box.mk (no_size hs)
   clear hs
   go_enter Tryz.func28, Tryz.ntmps28
   go_upto_region 1 with (fail)
   rw [← hW0, ← hbr]
   clear hW0 hz hbr
   go_upto_region 2 with (fail)
   refine wp_region_seq 1 [.flo] (by rfl) rfl (by decide) ?_
   simp only [List.take, List.zip, List.zipWith]
   refine gm_build [] rfl rfl _ build0 ?_
   try go_frame
   refine gm_nil ?_
   intro w7 hw7 _
   simp only [List.drop]
   try go_frame
   replace GR := Box.mk (hw7.block GR.out); replace B0 := Box.mk (B0.out.trans hw7)
   clear hw7
   go_wp2_with ((with_reducible refine wpList_storeP rfl (.tmp 2) (.tmp 14) rfl br f0 f0 f0 f0 (pcell f0 f0 f0 f0) rfl GR.out ?_ ?_ ?_); rfl; rfl)
   exact bodyPost_ret (results_row_tmp (p := 2) (q := 3) (ty := 58) rfl _ _ br 58 (pcell f0 f0 f0 f0) _ _ rfl (setRow_heap _ _ _ _ _ _ GR.out) rfl Tryz.underlying58 rfl (by kernel_rfl)) rfl ⟨.inr ⟨rfl, HN.out⟩, B0.out.setRow hgr _⟩
end Go.Proofs.YtafhncpaoolljaaGreat.Fe
