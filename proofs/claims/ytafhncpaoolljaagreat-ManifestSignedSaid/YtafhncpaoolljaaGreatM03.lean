/- Manifest: digits of bytes: the program's Hex, the document's. Manifest: the Builder's writing, over this program (its copyCheck is not the shelf's). The proofs' rows follow the kit's own of the same functions. Manifest: bytes of digits: the program's Unhex, the document's. Manifest: slices of sums; which sums may be; Find of both. Manifest: the document's Lines. Manifest: what the document's Parse makes of lines, plainly. -/
import Derived.Test.YtafhncpaoolljaaGreatM02
import Derived.IntWalk
import Derived.Deep.DeepCutAuto
import Derived.Deep.CutBlock
import Derived.OwnWalk
import Derived.Test.YtafhncpaoolljaaGreatRows
import Derived.Test.YtafhncpaoolljaaGreatM01
namespace Go.Proofs.YtafhncpaoolljaaGreat
set_option maxRecDepth 100000
set_option linter.unusedVariables false
open Go Go.RowKit
theorem Upd.belowN {a b : World} (u : Upd [] a b) : Below a.heap.size a b := ⟨u.os, u.tape, u.output, u.size, fun i hi => u.block i hi (by simp)⟩
section
variable {P : Program} {W : World} {S : List Nat} {T : (World → Prop) → List Nat → Act → Prop} {L : List (Oper × Kd)} {F : World → Prop} {N : List Nat} {a : Act} {o : Oper}
theorem gm_two {ty e : TypeId} (x y : Operand) (ho : o.op = .buildSlice ty 2 #[(0, x), (1, y)]) (u v : Value) (hx : a.eval x = u) (hy : a.eval y = v) (hr : ∀ w, (Instr.buildSlice ty 2 #[(0, u), (1, v)]).run P w = .ok (.slice (some ⟨w.heap.size, 0, none⟩) 2 2) (w.alloc (.cells #[u, v] e))) (hF : Stb F)
   (h : ∀ b, W.heap.size ≤ b → wpG P W S T L (fun w => F w ∧ w.heap[b]? = some (.cells #[u, v] e (0, 0))) ([b] ++ N) (a.put o.dst (.slice (some ⟨b, 0, none⟩) 2 2))) : wpG P W S T ((o, .cha) :: L) F N a :=
 gm_val fun w hw hFw => ⟨_, _, by
   subst hx; subst hy
   unfold execOp
   simp only [ho, Sem.run_bind, List.map_toArray, List.map_cons, List.map_nil, hr, Result.andThen_ok, Sem.run_pure], Gr.alloc _ _, _, [w.heap.size], hF.new _ _, ⟨hF _ _ (Gr.alloc _ _) hFw, heap_alloc_new _ _⟩, fun b hb => by simp at hb; subst hb; simp, h _ hw.size⟩
end
theorem take_succ_at (s : ByteArray) (j : Nat) (h : j < s.size) : s.data.toList.take (j + 1) = s.data.toList.take j ++ [s[j]] := by
 rw [List.take_succ_eq_append_getElem (by rw [Array.length_toList]; exact h)]; rfl
theorem hex_snoc (s : ByteArray) (j : Nat) (h : j < s.size) : hexL (s.data.toList.take (j + 1)) = hexL (s.data.toList.take j) ++ [dgM (s[j].toNat / 16), dgM (s[j].toNat % 16)] := by
 rw [take_succ_at s j h, hexL_app]; rfl
theorem and15 : ∀ k : Nat, k < 256 → bits .and .u8 (k : Int) 15 = ((k % 16 : Nat) : Int) := by decide +kernel
theorem digs_get : ∀ (n : Nat) (h : n < 16), (⟨#[48, 49, 50, 51, 52, 53, 54, 55, 56, 57, 97, 98, 99, 100, 101, 102]⟩ : ByteArray)[n]'h = dgM n := by decide
theorem own_str {w : World} {B n : Nat} {v : Value} {l : List UInt8} (h : Own w B 5 v n (l.map byv)) (hn : v ≠ .slice none 0 0) : (convert 29 9 v).run Tryz.prog w = .ok (.string ⟨l.toArray⟩) w :=
 run_str_Own h hn Tryz.underlying29 Tryz.underlying5 Tryz.underlying9
set_option maxHeartbeats 2000000 in
theorem hex_any (s : ByteArray) (hs : s.size ≤ 100000) (w : World) : Calls Tryz.prog 23 #[.string s] w fun e w' => e = .returned (.string ⟨(hexL s.data.toList).toArray⟩) ∧ Below w.heap.size w w' := by
 obtain ⟨M, hM⟩ : ∃ M, M = 2 * s.size := ⟨_, rfl⟩
 have hw0 : IntKind.i64.wrap (2 * (s.size : Int)) = (M : Int) := by rw [IntKind.wrap_i64]; omega
 have hmk := fun w => make_room (P := Tryz.prog) Tryz.underlying29 (e := 5) (z := .int .u8 0) (by_ := 1) (by kernel_rfl) rfl 0 M (by omega) (by omega) (by omega) 0 (M : Int) rfl rfl w
 obtain ⟨B, hB⟩ : ∃ B, B = w.heap.size := ⟨_, rfl⟩
 obtain ⟨Z, hZ⟩ : ∃ Z, Z = (List.replicate M (Value.int .u8 0)).toArray := ⟨_, rfl⟩
 rw [← hZ] at hmk
 have O0 := Box.mk (show Own (w.alloc (.cells Z 5)) B 5 (.slice (some ⟨B, 0, none⟩) 0 M) 0 [] by rw [hB]; exact Own.made w 5 Z M w.heap.size (Nat.le_refl _) (by unfold maxLen; omega) (by rw [hZ]; simp))
 have B0 := Box.mk (show Below B w (w.alloc (.cells Z 5)) by rw [hB]; exact (Below.refl _ _).alloc (Nat.le_refl _) _)
 have HBW := Box.mk hB
 rw [← hB]
 clear hM hZ
 go_enter Tryz.func23, Tryz.ntmps23
 go_wp2_with fail
 rw [← hB]
 clear hB hmk hw0
 go_loopw [3, 11] (fun v i wr => ∃ (j : Nat) (x : Value), j ≤ s.size ∧ x = v ∧ i = .int .i64 (j : Int) ∧ Own wr B 5 x (2 * j) ((hexL (s.data.toList.take j)).map byv) ∧ x ≠ .slice none 0 0 ∧ Below B w wr) (fun _ i _ => s.size - (intOf i).toNat)
 case atStart => exact ⟨0, _, Nat.zero_le _, rfl, rfl, O0.out, by simp, B0.out⟩
 case round =>
   clear O0 B0
   obtain ⟨j, v, hj, rfl, rfl, ho, hv, hb⟩ := hrel
   have OW := Box.mk ho; have HB := Box.mk hb; have HV := Box.mk hv
   clear ho hb hv
   by_cases hlt : j < s.size
   · have hjI : (j : Int) < (s.size : Int) := by omega
     obtain ⟨x, hx⟩ : ∃ x, x = s[j] := ⟨_, rfl⟩
     have hxe : s[j] = x := hx.symm
     have NX := Box.mk (hex_snoc s j hlt)
     rw [hxe] at NX
     have hx8 := x.toNat_lt
     obtain ⟨X1, hX1⟩ : ∃ X, X = x.toNat / 16 := ⟨_, rfl⟩
     obtain ⟨X2, hX2⟩ : ∃ X, X = x.toNat % 16 := ⟨_, rfl⟩
     obtain ⟨A, hA⟩ : ∃ A, A = (dgM X1).toNat := ⟨_, rfl⟩
     obtain ⟨C, hC⟩ : ∃ A, A = (dgM X2).toNat := ⟨_, rfl⟩
     have h1 : X1 < 16 := by omega
     have h2 : X2 < 16 := by omega
     have h1I : (X1 : Int) < 16 := by omega
     have h2I : (X2 : Int) < 16 := by omega
     have e1 : (x.toNat : Int) / 16 = (X1 : Int) := by omega
     have e2 : bits .and .u8 (x.toNat : Int) 15 = (X2 : Int) := by rw [hX2]; exact and15 _ hx8
     have e3 : ((⟨#[48, 49, 50, 51, 52, 53, 54, 55, 56, 57, 97, 98, 99, 100, 101, 102]⟩ : ByteArray)[X1]'h1).toNat = A := by rw [digs_get X1 h1, hA]
     have e4 : ((⟨#[48, 49, 50, 51, 52, 53, 54, 55, 56, 57, 97, 98, 99, 100, 101, 102]⟩ : ByteArray)[X2]'h2).toNat = C := by rw [digs_get X2 h2, hC]
     have HA := Box.mk (show A = (dgM (x.toNat / 16)).toNat by rw [hA, hX1]); have HC := Box.mk (show C = (dgM (x.toNat % 16)).toNat by rw [hC, hX2])
     clear hX1 hX2 hA hC hx
     go_upto_region 5 with (fail)
     refine wp_region_mix 12 [.flo, .flo, .flo, .flo, .flo, .flo, .flo, .flo, .flo, .flo, .flo, .cha] (by kernel_rfl) (by kernel_rfl) rfl ?_
     simp only [List.take, List.zip, List.zipWith]
     try go_frame
     refine gm_move (.tmp 3) (.inl rfl) (v) rfl ?_
     try go_frame
     refine gm_move (.tmp 0) (.inl rfl) (.string s) rfl ?_
     try go_frame
     refine gm_move (.tmp 4) (.inl rfl) (.int .i64 (j : Int)) rfl ?_
     try go_frame
     refine gm_flo (.int .u8 (x.toNat : Int)) (fun w1 hw1 => ?_) ?_
     case refine_1 =>
       go_simp
     try go_frame
     refine gm_flo (.int .u8 (X1 : Int)) (fun w1 hw1 => ?_) ?_
     case refine_1 =>
       go_simp
     try go_frame
     refine gm_flo (.int .u8 (A : Int)) (fun w1 hw1 => ?_) ?_
     case refine_1 =>
       go_simp
     try go_frame
     refine gm_move (.tmp 0) (.inl rfl) (.string s) rfl ?_
     try go_frame
     refine gm_move (.tmp 4) (.inl rfl) (.int .i64 (j : Int)) rfl ?_
     try go_frame
     refine gm_flo (.int .u8 (x.toNat : Int)) (fun w1 hw1 => ?_) ?_
     case refine_1 =>
       go_simp
     try go_frame
     refine gm_flo (.int .u8 (X2 : Int)) (fun w1 hw1 => ?_) ?_
     case refine_1 =>
       go_simp
     try go_frame
     refine gm_flo (.int .u8 (C : Int)) (fun w1 hw1 => ?_) ?_
     case refine_1 =>
       go_simp
     try go_frame
     refine gm_two (e := 5) (.tmp 19) (.tmp 24) rfl (.int .u8 (A : Int)) (.int .u8 (C : Int)) rfl rfl (fun _ => by kernel_rfl) Stb.tt (fun b1 hb1 => ?_)
     try go_frame
     refine gm_nil ?_
     intro w9 hw9 hF9
     simp only [List.drop]
     try go_frame
     have U9 := Box.mk ((Upd.refl [] wr).drew.trans hw9.upd)
     have NB9 := Box.mk hF9.2
     have O9 := Box.mk (OW.out.below (Upd.belowN U9.out))
     have B9 := Box.mk (HB.out.trans ((Upd.belowN U9.out).mono (by have := HB.out.size; have := HBW.out; omega)))
     clear hw9 hF9 hb1
     have hnews : ∀ (j0 : Nat) (u : Value), ([.int .u8 (A : Int), .int .u8 (C : Int)] : List Value)[j0]? = some u → w9.cell? ((⟨b1, 0, none⟩ : Addr).add j0) = some u := fun j0 u hu => by
       rw [show ((⟨b1, 0, none⟩ : Addr).add j0) = ⟨b1, j0, none⟩ from by unfold Addr.add; split <;> simp_all, cell_of_row _ _ _ _ _ _ NB9.out]; simpa using hu
     go_wp2_with (at_builtin; refine wpList_app (w0 := w) rfl (.tmp 14) (.tmp 25) 29 rfl B 5 (.int .u8 0) 1 Tryz.underlying29 (by kernel_rfl) rfl v (2 * j) ((hexL (s.data.toList.take j)).map byv) rfl O9.out B9.out (by have := B9.out.size; have := HBW.out; omega) ⟨b1, 0, none⟩ 2 2 [.int .u8 (A : Int), .int .u8 (C : Int)] rfl rfl hnews (fun u hu => by simp at hu; rcases hu with rfl | rfl <;> rfl) (by decide) (by omega) (by decide) ?_)
     intro v' w' hown hb hB hgr hnn
     have HO := Box.mk hown; have HBB := Box.mk hb
     clear hown hb hB hgr hnews OW HB U9 NB9 O9 B9
     go_wp2_with fail
     refine ⟨⟨j + 1, v', hlt, rfl, by go_num, ?_, hnn, HBB.out⟩, by simp [intOf]; omega⟩
     have e := HO.out
     rw [NX.out, List.map_append]
     rw [show 2 * (j + 1) = 2 * j + 2 by omega]
     rw [show [dgM (x.toNat / 16), dgM (x.toNat % 16)].map byv = [.int .u8 (A : Int), .int .u8 (C : Int)] by rw [HA.out, HC.out]; rfl]
     exact e
   · have hjk : j = s.size := by omega
     subst hjk
     have hcv := own_str OW.out HV.out
     rw [List.take_of_length_le (by rw [Array.length_toList]; exact Nat.le_refl _)] at hcv
     clear hlt
     go_wp2_with fail
     go_ret
     exact ⟨rfl, HB.out⟩
open Go Go.RowKit Go.Shelf
theorem infoB : (Tryz.prog.info? 5).map (fun i => (i.zero, i.size, i.bytes)) = some (some (.int .u8 0), 1, 1) := by kernel_rfl
theorem sizeBd : (Tryz.prog.info? 44).map (·.size) = some 2 := by kernel_rfl
theorem bcopy_used (b : Nat) (w : World) (h0 : w.cell? ⟨b, 0, none⟩ = some (.pointer (some ⟨b, 0, none⟩))) :
   Calls Tryz.prog 52 #[.pointer (some ⟨b, 0, none⟩)] w fun e w' => e = .returned (.tuple #[]) ∧ w' = w := by
 obtain ⟨j, hj, _⟩ := Option.map_eq_some_iff.1 sizeBd
 go_enter Tryz.func52, Tryz.ntmps52
 go_wp2_with fail
 rw [Lib.run_neq_ptr_same w _ Tryz.underlying42 hj]
 go_wp2_with fail
 go_end0
 exact ⟨rfl, rfl⟩
theorem bcopy_fresh (b : Nat) (w : World) (h0 : w.cell? ⟨b, 0, none⟩ = some (.pointer none)) (hsh : w.shape? b = some (44, 2)) (hfz : w.frozen? ⟨b, 0, none⟩ = false) :
   Calls Tryz.prog 52 #[.pointer (some ⟨b, 0, none⟩)] w fun e w' => e = .returned (.tuple #[]) ∧ w' = w.setCell ⟨b, 0, none⟩ (.pointer (some ⟨b, 0, none⟩)) := by
 obtain ⟨j, hj, hjs⟩ := Option.map_eq_some_iff.1 sizeBd
 go_enter Tryz.func52, Tryz.ntmps52
 go_wp2_with fail
 rw [Lib.run_to_unsafe w ⟨b, 0, none⟩ Tryz.underlying42 Tryz.underlying123 hj (by rw [hjs]; decide) hsh (Nat.zero_lt_succ 1)]
 simp only [Result.andThen]
 rw [Oper.upon_value]
 go_wp2_with fail
 rw [run_callFunc_extern Tryz.func91 (by kernel_rfl) (by kernel_rfl) (by kernel_rfl) (e := Extern.AbiNoEscape.same) (by kernel_rfl)]
 rw [Lib.run_noEscape]
 simp only [Result.andThen]
 rw [Oper.upon_value]
 go_wp2_with fail
 rw [Lib.run_from_unsafe w ⟨b, 0, none⟩ Tryz.underlying123 Tryz.underlying42 hj hsh (by kernel_rfl)]
 simp only [Result.andThen]
 rw [Oper.upon_value]
 go_wp2_with fail
 go_end0
 exact ⟨rfl, rfl⟩
theorem bcopy_any (B b : Nat) (bs : List Value) (w : World) (h : Lib.IsBuilderF 44 5 B b bs w) :
   Calls Tryz.prog 52 #[.pointer (some ⟨b, 0, none⟩)] w fun e w' => e = .returned (.tuple #[]) ∧ (Lib.BuilderAtF 44 5 B b (.pointer (some ⟨b, 0, none⟩)) bs w' ∧ Below B w w' ∧ Lib.OthersKept 5 (some b) w w') := by
 rcases h with h | h
 · refine (bcopy_fresh b w h.cell0 h.shape h.frozen0).mono ?_
   rintro e w' ⟨rfl, rfl⟩
   exact ⟨rfl, h.used _, (Below.refl B w).setCell (p := ⟨b, 0, none⟩) h.1 _, (Lib.OthersKept.refl _ _ w).setCell ⟨b, 0, none⟩ rfl _⟩
 · refine (bcopy_used b w h.cell0).mono ?_
   rintro e w' ⟨rfl, rfl⟩
   exact ⟨rfl, h, Below.refl B _, Lib.OthersKept.refl _ _ _⟩
set_option maxHeartbeats 2000000 in
theorem bwrite_any (B b : Nat) (bs : List Value) (s : ByteArray) (w : World) (h : Lib.IsBuilderF 44 5 B b bs w) (hlen : bs.length + s.size ≤ 140737488355328) (hBw : B ≤ w.heap.size) :
   Calls Tryz.prog 22 #[.pointer (some ⟨b, 0, none⟩), .string s] w fun e w' => e = .returned (.tuple #[.int .i64 s.size, .nilIface]) ∧ (Lib.BuilderAtF 44 5 B b (.pointer (some ⟨b, 0, none⟩)) (bs ++ Lib.strCells s) w' ∧ Below B w w' ∧ Lib.OthersKept 5 (some b) w w') := by
 obtain ⟨i0, hi, hz0, hz1, hz2⟩ := info_parts infoB
 go_enter Tryz.func22, Tryz.ntmps22
 go_wp2_with fail
 refine (bcopy_any B b bs _ h).mono ?_
 rintro e w1 ⟨rfl, h1, hb1, hk1⟩
 obtain ⟨hB, v, hbk, hown, hne⟩ := h1
 have c0 : w1.cell? ⟨b, 0, none⟩ = some (.pointer (some ⟨b, 0, none⟩)) := by rw [Lib.cell_of_heap hbk]; rfl
 have c1 : w1.cell? ⟨b, 1, none⟩ = some v := by rw [Lib.cell_of_heap hbk]; rfl
 go_wp2_with (at_builtin; refine Lib.wpList_append_own_stringF _ rfl _ _ 29 9 rfl B 5 i0 Tryz.underlying29 Tryz.underlying9 hi hz0 hz1 hz2 _ _ _ rfl hown s rfl ?c3 ?c4 ?c5 ?_)
 case c3 => unfold maxLen; omega
 case c4 => omega
 case c5 => have := hb1.size; omega
 intro v' w2 hown' hgrow _
 have hlt : b < w1.heap.size := by
   rcases Nat.lt_or_ge b w1.heap.size with h' | h'
   · exact h'
   · simp [Array.getElem?_eq_none h'] at hbk
 have hb2 : w2.heap[b]? = some (.cells #[.pointer (some ⟨b, 0, none⟩), v] 44 (0, 0)) := by
   rw [hgrow.block b hlt (fun e => hne e.symm)]
   exact hbk
 have d0 : w2.cell? ⟨b, 0, none⟩ = some (.pointer (some ⟨b, 0, none⟩)) := by rw [Lib.cell_of_heap hb2]; rfl
 have d1 : w2.cell? ⟨b, 1, none⟩ = some v := by rw [Lib.cell_of_heap hb2]; rfl
 have f1 : w2.frozen? ⟨b, 1, none⟩ = false := Lib.frozen_of_heap hb2 1
 obtain ⟨ao, n', cap, rfl⟩ : ∃ ao n' cap, v' = .slice ao n' cap := by
   rcases hown'.2 with ⟨hv, _⟩ | ⟨g, cap, cur, fz, hv, _⟩
   · exact ⟨_, _, _, hv⟩
   · exact ⟨_, _, _, hv⟩
 go_wp2_with fail
 go_ret2
 refine ⟨rfl, ?_, ?_, (hk1.grown hgrow (Lib.ownsRowF_kind hown)).setCell ⟨b, 1, none⟩ rfl _⟩
 · exact Lib.BuilderAtF.put (T := 44) (e := 5) hB hb2 (bs' := bs ++ Lib.strCells s) (by simpa [Lib.strCells_length] using hown') (by decide)
 · exact (hb1.grown hgrow (by have := hb1.size; omega) (fun k hk => (hown.lt k hk).1)).setCell (p := ⟨b, 1, none⟩) hB _
open Go Go.RowKit
def ixM (c : UInt8) : Int := match valM c with | none => -1 | some n => (n : Int)
theorem idx_any (c : UInt8) (w : World) : Calls Tryz.prog 54 #[.string ⟨#[48, 49, 50, 51, 52, 53, 54, 55, 56, 57, 97, 98, 99, 100, 101, 102]⟩, .int .u8 (c.toNat : Int)] w fun e w' => e = .returned (.int .i64 (ixM c)) ∧ w = w' := by
 refine (Tryz.strings_IndexByte ⟨#[48, 49, 50, 51, 52, 53, 54, 55, 56, 57, 97, 98, 99, 100, 101, 102]⟩ (c.toNat : Int) w).mono ?_
 rintro e w' ⟨rfl, rfl⟩
 refine ⟨?_, rfl⟩
 have h1 : ((c.toNat : Int).toNat).toUInt8 = c := by rw [Int.toNat_natCast]; exact UInt8.ofNat_toNat
 have h2 : (⟨#[48, 49, 50, 51, 52, 53, 54, 55, 56, 57, 97, 98, 99, 100, 101, 102]⟩ : ByteArray).data.toList = digsM := rfl
 rw [h1, h2, digs_index]; rfl
def unV (s : List UInt8) : Value := match unhexL s with
 | some l => .tuple #[.string ⟨l.toArray⟩, .int .i64 0]
 | none => .tuple #[.string ⟨#[]⟩, .int .i64 21]
theorem take_two (s : ByteArray) (k : Nat) (h : k + 1 < s.size) : s.data.toList.take (k + 2) = s.data.toList.take k ++ [s[k]'(by omega), s[k + 1]] := by
 rw [show k + 2 = (k + 1) + 1 by omega, take_succ_at s (k + 1) h, take_succ_at s k (by omega)]; simp
theorem take_len (s : ByteArray) (k : Nat) (h : k ≤ s.size) : (s.data.toList.take k).length = k := by rw [List.length_take, ba_len]; omega
theorem take_all (s : ByteArray) : s.data.toList.take s.size = s.data.toList := List.take_of_length_le (by rw [ba_len]; exact Nat.le_refl _)
theorem unhex_none_of (s : ByteArray) (k : Nat) (hk : k % 2 = 0) (h : k ≤ s.size) (hn : unhexL (s.data.toList.take k) = none) : unhexL s.data.toList = none := by
 have := unhex_app (s.data.toList.take k) (s.data.toList.drop k) (by rw [take_len s k h]; exact hk) hn
 rwa [List.take_append_drop] at this
set_option maxHeartbeats 2000000 in
theorem unhex_any (s : ByteArray) (hs : s.size ≤ 1500000) (w : World) : Calls Tryz.prog 26 #[.string s] w fun e w' => e = .returned (unV s.data.toList) ∧ Below w.heap.size w w' := by
 obtain ⟨V, hV⟩ : ∃ V, V = unV s.data.toList := ⟨_, rfl⟩
 rw [← hV]
 by_cases hodd : s.size % 2 = 0
 · have e0 : (((s.size : Nat) : Int) % 2 != 0) = false := by rw [bne_eq_false_iff_eq]; omega
   obtain ⟨M, hM⟩ : ∃ M, M = s.size / 2 := ⟨_, rfl⟩
   have e1 : ((s.size : Nat) : Int) / 2 = (M : Int) := by omega
   have e2 : IntKind.i64.wrap (M : Int) = (M : Int) := by rw [IntKind.wrap_i64]; omega
   have hmk := fun w => make_room (P := Tryz.prog) Tryz.underlying29 (e := 5) (z := .int .u8 0) (by_ := 1) (by kernel_rfl) rfl 0 M (by omega) (by omega) (by omega) 0 (M : Int) rfl rfl w
   obtain ⟨B, hB⟩ : ∃ B, B = w.heap.size := ⟨_, rfl⟩
   obtain ⟨Z, hZ⟩ : ∃ Z, Z = (List.replicate M (Value.int .u8 0)).toArray := ⟨_, rfl⟩
   rw [← hZ] at hmk
   have O0 := Box.mk (show Own (w.alloc (.cells Z 5)) B 5 (.slice (some ⟨B, 0, none⟩) 0 M) 0 [] by rw [hB]; exact Own.made w 5 Z M w.heap.size (Nat.le_refl _) (by unfold maxLen; omega) (by rw [hZ]; simp))
   have B0 := Box.mk (show Below B w (w.alloc (.cells Z 5)) by rw [hB]; exact (Below.refl _ _).alloc (Nat.le_refl _) _)
   have HBW := Box.mk hB
   have EV := Box.mk hodd
   have HV := Box.mk hV
   rw [← hB]
   clear hM hZ hodd hV
   go_enter Tryz.func26, Tryz.ntmps26
   go_wp2_with fail
   rw [← hB]
   clear hB hmk e0 e1 e2
   go_loopw [4, 5] (fun v i wr => ∃ (k : Nat) (x : Value) (l : List UInt8), k ≤ s.size ∧ k % 2 = 0 ∧ x = v ∧ i = .int .i64 (k : Int) ∧ unhexL (s.data.toList.take k) = some l ∧ l.length ≤ k ∧ Own wr B 5 x l.length (l.map byv) ∧ x ≠ .slice none 0 0 ∧ Below B w wr) (fun _ i _ => s.size - (intOf i).toNat)
   case atStart => exact ⟨0, _, [], Nat.zero_le _, rfl, rfl, rfl, rfl, Nat.le_refl _, O0.out, by simp, B0.out⟩
   case round =>
     clear O0 B0
     obtain ⟨k, v, l, hk, hk2, rfl, rfl, hl, hll, ho, hv, hb⟩ := hrel
     have OW := Box.mk ho; have HB := Box.mk hb; have NV := Box.mk hv; have HL := Box.mk hl
     clear ho hb hv hl
     by_cases hlt : k < s.size
     · have hlt2 : k + 1 < s.size := by have := EV.out; omega
       have hkI : (k : Int) < (s.size : Int) := by omega
       obtain ⟨K1, hK1⟩ : ∃ K, K = k + 1 := ⟨_, rfl⟩
       have hw1 : IntKind.i64.wrap ((k : Int) + 1) = (K1 : Int) := by rw [IntKind.wrap_i64]; omega
       have hK1I : (K1 : Int) < (s.size : Int) := by omega
       obtain ⟨K2, hK2⟩ : ∃ K, K = k + 2 := ⟨_, rfl⟩
       have hw2 : IntKind.i64.wrap ((k : Int) + 2) = (K2 : Int) := by rw [IntKind.wrap_i64]; omega
       have hK1n : K1 < s.size := by omega
       obtain ⟨a, ha⟩ : ∃ a, a = s[k] := ⟨_, rfl⟩
       obtain ⟨b, hb⟩ : ∃ b, b = s[K1] := ⟨_, rfl⟩
       have hae : s[k] = a := ha.symm
       have hbe : s[K1] = b := hb.symm
       have IA := Box.mk (fun w => idx_any a w)
       have IB := Box.mk (fun w => idx_any b w)
       have SN : Box (unhexL (s.data.toList.take K2) = match valM a, valM b with | some x, some y => some (l ++ [UInt8.ofNat (16 * x + y)]) | _, _ => none) := ⟨by
         have hb2 : s[k + 1] = b := by subst hK1; exact hbe
         rw [hK2, take_two s k hlt2, hae, hb2, unhex_snoc _ a b (by rw [take_len s k (by omega)]; exact hk2), HL.out]
         cases valM a <;> cases valM b <;> rfl⟩
       have HK := Box.mk (show K2 % 2 = 0 ∧ K2 ≤ s.size ∧ k + 2 = K2 ∧ l.length ≤ k ∧ k < s.size from ⟨by omega, by omega, by omega, hll, hlt⟩)
       clear ha hb hK1 hK2 hk2 hlt2 hll hk HL
       go_upto_region 7 with (fail)
       refine wp_region_mix 10 [.flo, .flo, .flo, .cha, .flo, .flo, .flo, .flo, .cha, .flo] (by kernel_rfl) (by kernel_rfl) rfl ?_
       simp only [List.take, List.zip, List.zipWith]
       try go_frame
       refine gm_move (.tmp 0) (.inl rfl) (.string s) rfl ?_
       try go_frame
       refine gm_move (.tmp 5) (.inl rfl) (.int .i64 (k : Int)) rfl ?_
       try go_frame
       refine gm_flo (.int .u8 (a.toNat : Int)) (fun w1 hw1 => ?_) ?_
       case refine_1 =>
         go_simp
       try go_frame
       refine gm_call [.string ⟨#[48, 49, 50, 51, 52, 53, 54, 55, 56, 57, 97, 98, 99, 100, 101, 102]⟩, .int .u8 (a.toNat : Int)] (by kernel_rfl) rfl rfl Stb.tt (fun w1 hw1 hF1 => (IA.out w1).mono ?_)
       rintro e w2 ⟨rfl, rfl⟩
       refine ⟨_, rfl, Gr.refl _, ?_⟩
       clear hw1 hF1 w1
       try go_frame
       refine gm_move (.tmp 0) (.inl rfl) (.string s) rfl ?_
       try go_frame
       refine gm_move (.tmp 5) (.inl rfl) (.int .i64 (k : Int)) rfl ?_
       try go_frame
       refine gm_flo (.int .i64 (K1 : Int)) (fun w1 hw1 => ?_) ?_
       case refine_1 =>
         go_simp
       try go_frame
       refine gm_flo (.int .u8 (b.toNat : Int)) (fun w1 hw1 => ?_) ?_
       case refine_1 =>
         go_simp
       try go_frame
       refine gm_call [.string ⟨#[48, 49, 50, 51, 52, 53, 54, 55, 56, 57, 97, 98, 99, 100, 101, 102]⟩, .int .u8 (b.toNat : Int)] (by kernel_rfl) rfl rfl Stb.tt (fun w1 hw1 hF1 => (IB.out w1).mono ?_)
       rintro e w2 ⟨rfl, rfl⟩
       refine ⟨_, rfl, Gr.refl _, ?_⟩
       clear hw1 hF1 w1
       try go_frame
       refine gm_move (.tmp 25) (.inr rfl) (.int .i64 (ixM a)) rfl ?_
       try go_frame
       refine gm_nil ?_
       intro w9 hw9 hF9
       simp only [List.drop]
       try go_frame
       have U9 := Box.mk ((Upd.refl [] wr).drew.trans hw9.upd)
       have O9 := Box.mk (OW.out.below (Upd.belowN U9.out))
       have B9 := Box.mk (HB.out.trans ((Upd.belowN U9.out).mono (by have := HB.out.size; have := HBW.out; omega)))
       clear hw9 hF9 OW HB U9
       cases hva : valM a with
       | none => as_aux_lemma =>
         have ea : ixM a = -1 := by unfold ixM; rw [hva]
         rw [ea]
         have HN : Box (V = .tuple #[.string ⟨#[]⟩, .int .i64 21]) := ⟨by
           have h := SN.out
           rw [hva] at h
           rw [HV.out]; unfold unV
           rw [unhex_none_of s K2 HK.out.1 HK.out.2.1 h]⟩
         clear hva ea SN O9 HV
         go_wp2_with fail
         go_ret2
         rw [HN.out]
         exact ⟨rfl, B9.out⟩
       | some x =>
         have ea : ixM a = (x : Int) := by unfold ixM; rw [hva]
         rw [ea]
         cases hvb : valM b with
         | none => as_aux_lemma =>
           have eb : ixM b = -1 := by unfold ixM; rw [hvb]
           rw [eb]
           have hx0 : decide ((x : Int) < 0) = false := by rw [decide_eq_false_iff_not]; omega
           have HN : Box (V = .tuple #[.string ⟨#[]⟩, .int .i64 21]) := ⟨by
             have h := SN.out
             rw [hva, hvb] at h
             rw [HV.out]; unfold unV
             rw [unhex_none_of s K2 HK.out.1 HK.out.2.1 h]⟩
           clear hva hvb ea eb SN O9 HV
           go_wp2_with fail
           go_ret2
           rw [HN.out]
           exact ⟨rfl, B9.out⟩
         | some y => as_aux_lemma =>
           have eb : ixM b = (y : Int) := by unfold ixM; rw [hvb]
           rw [eb]
           have hx0 : decide ((x : Int) < 0) = false := by rw [decide_eq_false_iff_not]; omega
           have hy0 : decide ((y : Int) < 0) = false := by rw [decide_eq_false_iff_not]; omega
           have hx := (val_dg hva).1; have hy := (val_dg hvb).1
           obtain ⟨x16, hx16⟩ : ∃ z, z = 16 * x := ⟨_, rfl⟩
           obtain ⟨c, hc⟩ : ∃ z, z = 16 * x + y := ⟨_, rfl⟩
           have f1 : IntKind.i64.wrap (16 * (x : Int)) = (x16 : Int) := by rw [IntKind.wrap_i64]; omega
           have f2 : IntKind.i64.wrap ((x16 : Int) + (y : Int)) = (c : Int) := by rw [IntKind.wrap_i64]; omega
           have f3 : IntKind.u8.wrap (c : Int) = (c : Int) := by rw [IntKind.wrap_u8]; omega
           have NX : Box (unhexL (s.data.toList.take K2) = some (l ++ [UInt8.ofNat c])) := ⟨by have h := SN.out; rw [hva, hvb] at h; rw [h, hc]⟩
           have HC : Box (byv (UInt8.ofNat c) = .int .u8 (c : Int)) := ⟨by unfold byv; rw [UInt8.toNat_ofNat', Nat.mod_eq_of_lt (by omega)]⟩
           have hll5 : l.length + 1 ≤ 1000000000 := by have := HK.out.2.2.2.1; have := HK.out.2.2.2.2; omega
           clear hva hvb ea eb SN hx hy hx16 hc HV
           go_wp2_with (at_builtin; refine wpList_app1 (w0 := w) rfl (.tmp 37) (.tmp 43) 29 rfl B 5 (.int .u8 0) 1 Tryz.underlying29 (by kernel_rfl) rfl v l.length (l.map byv) rfl (O9.out.alloc _) (B9.out.alloc (by have := B9.out.size; have := HBW.out; omega) _) (by have := B9.out.size; have := HBW.out; simp; omega) w9.heap.size (.int .u8 (c : Int)) rfl (cell_new _ _ _) rfl hll5 (by decide) ?_)
           intro v' w' hown hb hB hgr hnn
           have HO := Box.mk hown; have HBB := Box.mk hb
           clear hown hb hB hgr O9 B9
           go_wp2_with fail
           refine ⟨⟨K2, v', l ++ [UInt8.ofNat c], HK.out.2.1, HK.out.1, rfl, rfl, NX.out, by rw [List.length_append]; have := HK.out; simp; omega, ?_, hnn, HBB.out⟩, by have := HK.out; simp [intOf]; omega⟩
           rw [List.length_append, List.map_append, List.map_singleton, HC.out]
           exact HO.out
     · have hkk : k = s.size := by omega
       subst hkk
       have hkI : ¬ (s.size : Int) < (s.size : Int) := by omega
       have hcv := own_str OW.out NV.out
       have HN : Box (V = .tuple #[.string ⟨l.toArray⟩, .int .i64 0]) := ⟨by
         have h := HL.out
         rw [take_all] at h
         rw [HV.out]; unfold unV; rw [h]⟩
       clear hlt HV HL
       go_wp2_with fail
       go_ret2
       rw [HN.out]
       exact ⟨rfl, HB.out⟩
 · have e0 : (((s.size : Nat) : Int) % 2 != 0) = true := by rw [bne_iff_ne]; omega
   have HN : Box (V = .tuple #[.string ⟨#[]⟩, .int .i64 21]) := ⟨by
     rw [hV]; unfold unV; rw [unhex_odd _ (by rw [ba_len]; omega)]⟩
   clear hV hodd
   go_enter Tryz.func26, Tryz.ntmps26
   go_wp2_with fail
   go_ret2
   rw [HN.out]
   exact ⟨rfl, Below.refl _ _⟩
open Go Go.RowKit
structure SAt (w : World) (p : Addr) (x : SM) : Prop where
 c0 : w.cell? p = some (.string x.name)
 c1 : w.cell? (p.add 1) = some (.string x.sum)
theorem SAt.flat {w : World} {p : Addr} {x : SM} (h : SAt w p x) : w.cell? p = some (.string x.name) ∧ w.cell? ⟨p.block, p.off + 1, none⟩ = some (.string x.sum) := ⟨h.c0, h.c1⟩
theorem SAt.lt {w : World} {p : Addr} {x : SM} (h : SAt w p x) : p.block < w.heap.size := World.block_lt_of_cell? w p h.c0
theorem SAt.below {B : Nat} {w w' : World} {p : Addr} {x : SM} (h : SAt w p x) (hb : Below B w w') (hp : p.block < B) : SAt w' p x := by
 have hq : ∀ j, (p.add j).block = p.block := by intro j; unfold Addr.add; split <;> rfl
 exact ⟨(hb.cell hp).trans h.c0, (hb.cell (by rw [hq]; exact hp)).trans h.c1⟩
def SumsS (w : World) (sl : Value) (l : List SM) : Prop :=
 ∃ (ao : Option Addr) (cap : Nat), sl = .slice ao l.length cap ∧ l.length ≤ maxLen ∧ (∀ x ∈ l, x.name.size ≤ maxLen ∧ x.sum.size ≤ maxLen) ∧ ∀ i x, l[i]? = some x → ∃ a, ao = some a ∧ SAt w (a.add (i * 2)) x
theorem SumsS.below {w w' : World} {v : Value} {l : List SM} (h : SumsS w v l) (hb : Below w.heap.size w w') : SumsS w' v l := by
 obtain ⟨ao, cap, h1, h2, h3, h4⟩ := h
 refine ⟨ao, cap, h1, h2, h3, fun i x hx => ?_⟩
 obtain ⟨a, ha, hs⟩ := h4 i x hx
 exact ⟨a, ha, hs.below hb hs.lt⟩
def findM (l : List SM) (n : ByteArray) : Option SM := l.find? (fun x => decide (x.name = n))
def fndV (l : List SM) (n : ByteArray) : Value := match findM l n with
 | some x => .tuple #[.string x.sum, .int .i64 0]
 | none => .tuple #[.string ⟨#[]⟩, .int .i64 222]
theorem findM_step {l : List SM} {n : ByteArray} {j : Nat} {x : SM} (hx : l[j]? = some x) : findM (l.drop j) n = if x.name = n then some x else findM (l.drop (j + 1)) n := by
 have hj := (List.getElem?_eq_some_iff.1 hx)
 obtain ⟨hlt, he⟩ := hj
 rw [List.drop_eq_getElem_cons hlt, he]
 unfold findM
 rw [List.find?_cons]
 by_cases h : x.name = n <;> simp [h]
theorem ba_eq (a b : ByteArray) : (a.toList == b.toList) = decide (a = b) := by
 rw [Bool.eq_iff_iff, beq_iff_eq, decide_eq_true_iff, ByteArray.toList_eq, ByteArray.toList_eq]
 constructor
 · intro h; cases a; cases b; simpa using h
 · intro h; rw [h]
theorem sm_cells {w : World} {b : Nat} {x : SM} (h : w.heap[b]? = some (.cells #[.string x.name, .string x.sum] 31 (0, 0))) : w.cell? ⟨b, 0, none⟩ = some (.string x.name) ∧ w.cell? ⟨b, 1, none⟩ = some (.string x.sum) := by
 refine ⟨?_, ?_⟩ <;> (rw [cell_of_row _ _ _ _ _ _ h]; rfl)
set_option maxHeartbeats 2000000 in
theorem find_any (l : List SM) (n : ByteArray) (v : Value) (w : World) (hS : SumsS w v l) : Calls Tryz.prog 11 #[v, .string n] w fun e w' => e = .returned (fndV l n) ∧ Below w.heap.size w w' := by
 obtain ⟨ao, cap, rfl, hlen, _, hcells⟩ := hS
 unfold maxLen at hlen
 obtain ⟨V, hV⟩ : ∃ V, V = fndV l n := ⟨_, rfl⟩
 rw [← hV]
 have HCELLS := Box.mk hcells; have HV := Box.mk hV
 clear hcells hV
 go_enter Tryz.func11, Tryz.ntmps11
 go_wp2_with fail
 go_loopw [10] (fun i wr => ∃ j : Nat, j ≤ l.length ∧ i = .int .i64 (j : Int) ∧ findM l n = findM (l.drop j) n ∧ Below w.heap.size w wr) (fun i _ => l.length - (intOf i).toNat)
 case atStart => exact ⟨0, Nat.zero_le _, rfl, rfl, Below.refl _ _⟩
 case round =>
   obtain ⟨j, hj, rfl, hf, hb⟩ := hrel
   have HF := Box.mk hf; have HB := Box.mk hb
   clear hf hb
   by_cases hlt : j < l.length
   · have hltI : (j : Int) < (l.length : Int) := by omega
     obtain ⟨x, hx⟩ : ∃ s, l[j]? = some s := ⟨_, List.getElem?_eq_getElem hlt⟩
     obtain ⟨a, rfl, HO⟩ := HCELLS.out j x hx
     obtain ⟨q0, q1⟩ := (HO.below HB.out HO.lt).flat
     have ST := Box.mk (findM_step (n := n) hx)
     obtain ⟨wk, hwk⟩ : ∃ wk, wk = wr.alloc (.cells #[.string x.name, .string x.sum] 31) := ⟨_, rfl⟩
     obtain ⟨ob, hob⟩ : ∃ z, z = wr.heap.size := ⟨_, rfl⟩
     have OB : Box (wk.heap[ob]? = some (.cells #[.string x.name, .string x.sum] 31 (0, 0))) := ⟨by rw [hwk, hob]; exact heap_alloc_new _ _⟩
     have BK := Box.mk (show Below w.heap.size w wk by rw [hwk]; exact HB.out.alloc HB.out.size _)
     clear HO hx
     go_upto_region 4 with (fail)
     rw [← hwk, ← hob]
     clear hwk hob q0 q1 HB
     obtain ⟨z0, z1⟩ := sm_cells OB.out
     have BE := ba_eq x.name n
     by_cases he : x.name = n
     · rw [decide_eq_true he] at BE
       have HN : Box (V = .tuple #[.string x.sum, .int .i64 0]) := ⟨by rw [HV.out]; unfold fndV; rw [HF.out, ST.out, if_pos he]⟩
       clear he HV HF ST
       go_wp2_with fail
       go_ret2
       rw [HN.out]
       exact ⟨rfl, BK.out⟩
     · rw [decide_eq_false he] at BE
       have HN : Box (findM l n = findM (l.drop (j + 1)) n) := ⟨by rw [HF.out, ST.out, if_neg he]⟩
       clear he HV HF ST
       go_wp2_with fail
       exact ⟨⟨j + 1, hlt, by go_num, HN.out, BK.out⟩, by simp [intOf]; omega⟩
   · have hltI : ¬ (j : Int) < (l.length : Int) := by omega
     have HN : Box (V = .tuple #[.string ⟨#[]⟩, .int .i64 222]) := ⟨by rw [HV.out]; unfold fndV; rw [HF.out, List.drop_of_length_le (by omega)]; rfl⟩
     clear HV HF
     go_wp2_with fail
     go_ret2
     rw [HN.out]
     exact ⟨rfl, HB.out⟩
set_option maxHeartbeats 4000000 in
theorem may_any (x : SM) (hn : x.name.size ≤ maxLen) (hs : x.sum.size ≤ maxLen) (w : World) : Calls Tryz.prog 21 #[.agg #[.string x.name, .string x.sum]] w fun e w' => e = .returned (.bool x.may) ∧ Below w.heap.size w w' := by
 unfold maxLen at hn hs
 obtain ⟨V, hV⟩ : ∃ V, V = x.may := ⟨_, rfl⟩
 rw [← hV]
 have HV := Box.mk hV
 clear hV
 obtain ⟨WB, hWB⟩ : ∃ W, W = w.alloc (.cells #[.string x.name, .string x.sum] 31) := ⟨_, rfl⟩
 obtain ⟨b0, hb0⟩ : ∃ z, z = w.heap.size := ⟨_, rfl⟩
 have R0 := Box.mk (show WB.heap[b0]? = some (.cells #[.string x.name, .string x.sum] 31 (0, 0)) by rw [hWB, hb0]; exact heap_alloc_new _ _)
 have BW := Box.mk (show Below w.heap.size w WB by rw [hWB]; exact (Below.refl _ _).alloc (Nat.le_refl _) _)
 rw [← hb0] at BW
 go_enter Tryz.func21, Tryz.ntmps21
 rw [← hb0]
 go_upto_region 1 with (fail)
 rw [← hWB, ← hb0]
 clear hWB hb0
 obtain ⟨z0, z1⟩ := sm_cells R0.out
 by_cases f1 : x.sum.size = 32
 · have f1I : (((x.sum.size : Nat) : Int) == 32) = true := by rw [beq_iff_eq]; omega
   by_cases f2 : 1 ≤ x.name.size
   · have f2I : (1 : Int) ≤ (x.name.size : Int) := by omega
     by_cases f3 : x.name.size ≤ 100
     · have f3I : (x.name.size : Int) ≤ 100 := by omega
       go_wp2_with fail
       go_loopw [3, 24] (fun o i wr => ∃ j : Nat, j ≤ x.name.size ∧ o = .bool (true && (x.name.data.toList.take j).all nmB) ∧ i = .int .i64 (j : Int) ∧ WB = wr) (fun _ i _ => x.name.size - (intOf i).toNat)
       case atStart => exact ⟨0, Nat.zero_le _, rfl, rfl, rfl⟩
       case round =>
         obtain ⟨j, hj, rfl, rfl, rfl⟩ := hrel
         obtain ⟨o, ho⟩ : ∃ o, o = (true && (x.name.data.toList.take j).all nmB) := ⟨_, rfl⟩
         rw [← ho]
         by_cases hlt : j < x.name.size
         · have hjI : (j : Int) < (x.name.size : Int) := by omega
           obtain ⟨c, hc⟩ : ∃ c, c = x.name[j] := ⟨_, rfl⟩
           have hce : x.name[j] = c := hc.symm
           have NS : Box ((true && (x.name.data.toList.take (j + 1)).all nmB) = (o && nmB c)) := ⟨by rw [take_succ_at x.name j hlt, hce, List.all_append, ho]; simp⟩
           obtain ⟨X, hX⟩ : ∃ X, X = c.toNat := ⟨_, rfl⟩
           have hcX : (c.toNat : Int) = (X : Int) := by rw [hX]
           cases o with
           | false =>
             have NF : Box ((true && (x.name.data.toList.take (j + 1)).all nmB) = false) := ⟨by rw [NS.out]; rfl⟩
             clear hc hX ho NS
             go_wp2_with fail
             exact ⟨⟨j + 1, hlt, by rw [NF.out], by go_num, trivial⟩, by simp [intOf]; omega⟩
           | true =>
             by_cases g1 : 32 < X
             · have g1I : (32 : Int) < (X : Int) := by omega
               by_cases g2 : X < 127
               · have g2I : (X : Int) < 127 := by omega
                 have NF : Box ((true && (x.name.data.toList.take (j + 1)).all nmB) = true) := ⟨by rw [NS.out]; unfold nmB; simp; omega⟩
                 clear hc hX ho NS g1 g2
                 go_wp2_with fail
                 exact ⟨⟨j + 1, hlt, by rw [NF.out], by go_num, trivial⟩, by simp [intOf]; omega⟩
               · have g2I : ¬ (X : Int) < 127 := by omega
                 have NF : Box ((true && (x.name.data.toList.take (j + 1)).all nmB) = false) := ⟨by rw [NS.out]; unfold nmB; simp; omega⟩
                 clear hc hX ho NS g1 g2
                 go_wp2_with fail
                 exact ⟨⟨j + 1, hlt, by rw [NF.out], by go_num, trivial⟩, by simp [intOf]; omega⟩
             · have g1I : ¬ (32 : Int) < (X : Int) := by omega
               have NF : Box ((true && (x.name.data.toList.take (j + 1)).all nmB) = false) := ⟨by rw [NS.out]; unfold nmB; simp; omega⟩
               clear hc hX ho NS g1
               go_wp2_with fail
               exact ⟨⟨j + 1, hlt, by rw [NF.out], by go_num, trivial⟩, by simp [intOf]; omega⟩
         · have hjj : j = x.name.size := by omega
           subst hjj
           have HN : Box (V = o) := ⟨by rw [HV.out, ho, take_all]; unfold SM.may; simp [f1, f2, f3]⟩
           have hjI : ¬ (x.name.size : Int) < (x.name.size : Int) := by omega
           clear ho hlt
           go_wp2_with fail
           go_ret
           rw [HN.out]
           exact ⟨rfl, BW.out⟩
     · have f3I : ¬ (x.name.size : Int) ≤ 100 := by omega
       go_wp2_with fail
       go_loopw [3, 24] (fun o i wr => ∃ j : Nat, j ≤ x.name.size ∧ o = .bool (false && (x.name.data.toList.take j).all nmB) ∧ i = .int .i64 (j : Int) ∧ WB = wr) (fun _ i _ => x.name.size - (intOf i).toNat)
       case atStart => exact ⟨0, Nat.zero_le _, rfl, rfl, rfl⟩
       case round =>
         obtain ⟨j, hj, rfl, rfl, rfl⟩ := hrel
         obtain ⟨o, ho⟩ : ∃ o, o = (false && (x.name.data.toList.take j).all nmB) := ⟨_, rfl⟩
         rw [← ho]
         by_cases hlt : j < x.name.size
         · have hjI : (j : Int) < (x.name.size : Int) := by omega
           obtain ⟨c, hc⟩ : ∃ c, c = x.name[j] := ⟨_, rfl⟩
           have hce : x.name[j] = c := hc.symm
           have NS : Box ((false && (x.name.data.toList.take (j + 1)).all nmB) = (o && nmB c)) := ⟨by rw [take_succ_at x.name j hlt, hce, List.all_append, ho]; simp⟩
           obtain ⟨X, hX⟩ : ∃ X, X = c.toNat := ⟨_, rfl⟩
           have hcX : (c.toNat : Int) = (X : Int) := by rw [hX]
           cases o with
           | false =>
             have NF : Box ((false && (x.name.data.toList.take (j + 1)).all nmB) = false) := ⟨by rw [NS.out]; rfl⟩
             clear hc hX ho NS
             go_wp2_with fail
             exact ⟨⟨j + 1, hlt, by rw [NF.out], by go_num, trivial⟩, by simp [intOf]; omega⟩
           | true => exact absurd ho (by simp)
         · have hjj : j = x.name.size := by omega
           subst hjj
           have HN : Box (V = o) := ⟨by rw [HV.out, ho, take_all]; unfold SM.may; simp [f1, f2, f3]⟩
           have hjI : ¬ (x.name.size : Int) < (x.name.size : Int) := by omega
           clear ho hlt
           go_wp2_with fail
           go_ret
           rw [HN.out]
           exact ⟨rfl, BW.out⟩
   · have f2I : ¬ (1 : Int) ≤ (x.name.size : Int) := by omega
     go_wp2_with fail
     go_loopw [3, 24] (fun o i wr => ∃ j : Nat, j ≤ x.name.size ∧ o = .bool (false && (x.name.data.toList.take j).all nmB) ∧ i = .int .i64 (j : Int) ∧ WB = wr) (fun _ i _ => x.name.size - (intOf i).toNat)
     case atStart => exact ⟨0, Nat.zero_le _, rfl, rfl, rfl⟩
     case round =>
       obtain ⟨j, hj, rfl, rfl, rfl⟩ := hrel
       obtain ⟨o, ho⟩ : ∃ o, o = (false && (x.name.data.toList.take j).all nmB) := ⟨_, rfl⟩
       rw [← ho]
       by_cases hlt : j < x.name.size
       · have hjI : (j : Int) < (x.name.size : Int) := by omega
         obtain ⟨c, hc⟩ : ∃ c, c = x.name[j] := ⟨_, rfl⟩
         have hce : x.name[j] = c := hc.symm
         have NS : Box ((false && (x.name.data.toList.take (j + 1)).all nmB) = (o && nmB c)) := ⟨by rw [take_succ_at x.name j hlt, hce, List.all_append, ho]; simp⟩
         obtain ⟨X, hX⟩ : ∃ X, X = c.toNat := ⟨_, rfl⟩
         have hcX : (c.toNat : Int) = (X : Int) := by rw [hX]
         cases o with
         | false =>
           have NF : Box ((false && (x.name.data.toList.take (j + 1)).all nmB) = false) := ⟨by rw [NS.out]; rfl⟩
           clear hc hX ho NS
           go_wp2_with fail
           exact ⟨⟨j + 1, hlt, by rw [NF.out], by go_num, trivial⟩, by simp [intOf]; omega⟩
         | true => exact absurd ho (by simp)
       · have hjj : j = x.name.size := by omega
         subst hjj
         have HN : Box (V = o) := ⟨by rw [HV.out, ho, take_all]; unfold SM.may; simp [f1, f2]⟩
         have hjI : ¬ (x.name.size : Int) < (x.name.size : Int) := by omega
         clear ho hlt
         go_wp2_with fail
         go_ret
         rw [HN.out]
         exact ⟨rfl, BW.out⟩
 · have f1I : (((x.sum.size : Nat) : Int) == 32) = false := by rw [beq_eq_false_iff_ne]; omega
   go_wp2_with fail
   go_loopw [3, 24] (fun o i wr => ∃ j : Nat, j ≤ x.name.size ∧ o = .bool (false && (x.name.data.toList.take j).all nmB) ∧ i = .int .i64 (j : Int) ∧ WB = wr) (fun _ i _ => x.name.size - (intOf i).toNat)
   case atStart => exact ⟨0, Nat.zero_le _, rfl, rfl, rfl⟩
   case round =>
     obtain ⟨j, hj, rfl, rfl, rfl⟩ := hrel
     obtain ⟨o, ho⟩ : ∃ o, o = (false && (x.name.data.toList.take j).all nmB) := ⟨_, rfl⟩
     rw [← ho]
     by_cases hlt : j < x.name.size
     · have hjI : (j : Int) < (x.name.size : Int) := by omega
       obtain ⟨c, hc⟩ : ∃ c, c = x.name[j] := ⟨_, rfl⟩
       have hce : x.name[j] = c := hc.symm
       have NS : Box ((false && (x.name.data.toList.take (j + 1)).all nmB) = (o && nmB c)) := ⟨by rw [take_succ_at x.name j hlt, hce, List.all_append, ho]; simp⟩
       obtain ⟨X, hX⟩ : ∃ X, X = c.toNat := ⟨_, rfl⟩
       have hcX : (c.toNat : Int) = (X : Int) := by rw [hX]
       cases o with
       | false =>
         have NF : Box ((false && (x.name.data.toList.take (j + 1)).all nmB) = false) := ⟨by rw [NS.out]; rfl⟩
         clear hc hX ho NS
         go_wp2_with fail
         exact ⟨⟨j + 1, hlt, by rw [NF.out], by go_num, trivial⟩, by simp [intOf]; omega⟩
       | true => exact absurd ho (by simp)
     · have hjj : j = x.name.size := by omega
       subst hjj
       have HN : Box (V = o) := ⟨by rw [HV.out, ho, take_all]; unfold SM.may; simp [f1]⟩
       have hjI : ¬ (x.name.size : Int) < (x.name.size : Int) := by omega
       clear ho hlt
       go_wp2_with fail
       go_ret
       rw [HN.out]
       exact ⟨rfl, BW.out⟩
open Go Go.RowKit
theorem ba_cutL (s : ByteArray) (i j : Nat) : (s.extract i j).data.toList = (s.data.toList.drop i).take (j - i) := by
 rw [ByteArray.data_extract, Array.toList_extract, List.extract_eq_take_drop]
open Go Go.RowKit
end Go.Proofs.YtafhncpaoolljaaGreat
