/- Whatever image comes in, the call of BootReads returns true and leaves its argument as it was. Its condition: the package-level variable boot.errNone holds what its initialiser lays; the card of it stands at the end. -/
import Derived.Test.YtgcbmjflodgnbaaGreatDoorM13
import Derived.Test.YtgcbmjflodgnbaaGreatDoorM15
import Derived.Test.YtgcbmjflodgnbaaGreatDoorM10
import Derived.Test.YtgcbmjflodgnbaaGreatDoorM11
import Derived.Test.YtgcbmjflodgnbaaGreatDoorM12
import Derived.Test.YtgcbmjflodgnbaaGreatDoorM14
import Derived.Deep.DeepCutAuto
import Derived.Deep.CutBlock
import Derived.IntWalk
import Derived.Deep.MidRow
import Derived.Test.YtgcbmjflodgnbaaGreatDoorCards
import Derived.Test.YtgcbmjflodgnbaaGreatDoorTie
import Derived.ProofKit
import Derived.OpenShut
import Derived.ShutString
import Derived.ChangeOld
import Derived.Deep.DeepHandedRow
import Derived.Stop.LaidErr
namespace Go.Proofs.YtgcbmjflodgnbaaGreatDoor.bootReads
set_option maxRecDepth 100000
open Go Go.RowKit Go.ChangeShapes Go.WideShapes Go.ChangeAt
open Go.ChangeMaps (open_string shut_string)
set_option linter.unusedVariables false

/-- The bytes that are asked for: the image's, then zeros. -/
theorem zrow (n : Nat) : Array.replicate n (Value.int .u8 0) = ((List.replicate n (0 : UInt8)).map bval).toArray := by
  rw [List.map_replicate, ← List.toArray_replicate]; rfl
theorem mk_zero (n : Nat) (x : Int) (hx : x = n) (h : n ≤ 1000000) (L : List UInt8) (hL : L = List.replicate n 0) (w : World) : (Instr.makeSlice 42 (.int .i64 x) (.int .i64 x)).run Tryz.prog w = .ok (.slice (some ⟨w.heap.size, 0, none⟩) n n) (w.alloc (.cells (L.map bval).toArray 5)) := by
  rw [make_bytes n x hx h w, zrow, hL]
theorem conv_row {w : World} {g n : Nat} {L : List UInt8} (V : ByteArray) (hV : V = ⟨L.toArray⟩) (hn : L.length = n) (h : w.heap[g]? = some (.cells (L.map bval).toArray 5 (0, 0))) : (convert 42 9 (.slice (some ⟨g, 0, none⟩) n n)).run Tryz.prog w = .ok (.string V) w := by
  rw [hV]
  exact run_bytes_at Tryz.prog w g 0 n L 42 9 5 n hn Tryz.underlying42 Tryz.underlying5 Tryz.underlying9 (fun i u hu => by
    rw [Nat.zero_add, cell_of_row _ _ _ _ _ _ h, List.getElem?_toArray, List.getElem?_map, hu]; rfl)
section
variable {W : World} {S : List Nat} {T : (World → Prop) → List Nat → Act → Prop} {L : List (Oper × Kd)} {F : World → Prop} {N : List Nat} {a : Act} {o : Oper}
theorem gm_loadMB (x : Operand) (ho : o.op = .load 24 x) (b off : Nat) (cs : Array Value) (t' : TypeId) (hb : W.heap[b]? = some (.cells cs t' (0, 0))) (hbS : b ∉ S) (hx : a.eval x = .pointer (some ⟨b, off, none⟩)) (r : BR)
    (ht : ∀ j u, (brC r).toList[j]? = some u → cs[off + j]? = some u)
    (h : wpG Tryz.prog W S T L F N (a.put o.dst (.agg #[.int .i64 r.slot, .bool r.up, .int .i64 r.count, .int .i64 r.s0, .int .i64 r.s1]))) : wpG Tryz.prog W S T ((o, .flo) :: L) F N a :=
  gm_flo _ (fun w hw => by
    unfold execOp
    simp only [ho, hx, Sem.run_bind, Sem.run_pure, Result.andThen_ok, run_loadAt_mid w b off 24 (brC r).toList _ (fun j u hj => (cell_of_row _ _ _ _ _ _ (hw.at hbS hb)).trans (ht j u hj)) Tryz.underlying24 rfl (by kernel_rfl)]
    rfl) h
end
theorem FS.bopen_alive {s : FS} {F : Nat} {t : BS} (h : s.bopen F = .ok t) : t.dead = false := by
  unfold FS.bopen at h
  split at h
  · cases h
  · split at h
    · cases h
    · split at h
      · cases h
      · injection h with h; rw [← h]; exact bscan_dead s F 16
set_option maxHeartbeats 8000000 in
theorem walk (im : ByteArray) (wi : im.size ≤ maxLen) (w : World) (a0 : Addr) (hE : ErrAt w a0) : Calls Tryz.prog 5 #[.string im] w fun e w' => e = .returned (.bool true) ∧ Below w.heap.size w w' := by
  obtain ⟨L0, hL0⟩ : ∃ L, L = List.replicate 1024 (0 : UInt8) := ⟨_, rfl⟩
  obtain ⟨L5, hL5⟩ : ∃ L, L = List.replicate 512 (0 : UInt8) := ⟨_, rfl⟩
  obtain ⟨M, hM⟩ : ∃ M, M = min im.size 1024 := ⟨_, rfl⟩
  obtain ⟨C, hC⟩ : ∃ C, C = im.extract 0 M := ⟨_, rfl⟩
  obtain ⟨L1, hL1⟩ : ∃ L, L = layL L0 0 C.data.toList := ⟨_, rfl⟩
  obtain ⟨V, hV⟩ : ∃ V : ByteArray, V = ⟨L1.toArray⟩ := ⟨_, rfl⟩
  obtain ⟨Z, hZ⟩ : ∃ Z : ByteArray, Z = ⟨L5.toArray⟩ := ⟨_, rfl⟩
  have hCs : C.size = M := by rw [hC, ByteArray.size_extract]; omega
  have l0 : L0.length = 1024 := by rw [hL0, List.length_replicate]
  have l5 : L5.length = 512 := by rw [hL5, List.length_replicate]
  have hCl : C.data.toList.length = C.size := Array.length_toList
  have l1 : L1.length = 1024 := by rw [hL1, layL_len (by rw [l0, hCl, hCs, hM]; omega)]; exact l0
  clear hCl
  have hmk := fun w => mk_zero 1024 1024 rfl (by omega) L0 hL0 w
  have hmk5 := fun w => mk_zero 512 512 rfl (by omega) L5 hL5 w
  obtain ⟨IMG, hIMG⟩ : ∃ IMG : ByteArray, IMG = Z ++ V := ⟨_, rfl⟩
  have hZs : Z.size = 512 := by rw [hZ]; show L5.toArray.size = _; rw [List.size_toArray, l5]
  have hVs : V.size = 1024 := by rw [hV]; show L1.toArray.size = _; rw [List.size_toArray, l1]
  have hsz : IMG.size = 1536 := by rw [hIMG, ByteArray.size_append, hZ, hV]; show L5.toArray.size + L1.toArray.size = 1536; rw [List.size_toArray, List.size_toArray, l5, l1]
  have hsb : sizeB IMG.size = true := by rw [hsz]; unfold sizeB; decide
  have OP := Box.mk (fun w => open_yes IMG w hsb)
  have ROP := Box.mk (fun w => ropen_yes IMG w hsb)
  have hok := FS.new_ok (l := IMG.data.toList) (by rw [show IMG.data.toList.length = IMG.size from Array.length_toList]; exact hsb)
  have hn3 : (FS.new IMG.data.toList).n.length = 3 := by
    unfold FS.new; rw [List.length_replicate, show IMG.data.toList.length = IMG.size from Array.length_toList, hsz]
  obtain ⟨s, hs⟩ : ∃ s, s = FS.new IMG.data.toList := ⟨_, rfl⟩
  unfold Made at OP ROP
  rw [← hs] at hok hn3 OP ROP
  have HOK := Box.mk hok; have HN := Box.mk hn3
  have HIN : Box (In s.n.length ((1 : Nat) : Int) 2) := ⟨by rw [hn3]; exact ⟨by omega, by omega, by omega, by omega⟩⟩
  have FX := Box.mk (fun w hE => bfixed_any a0 w hE)
  have HE := Box.mk hE; have GE := Box.mk hE.lt
  have HINF : Box ((Tryz.prog.info? 5).map (·.size) = some 1) := ⟨by kernel_rfl⟩
  have hmi : min (im.size : Int) 1024 = (M : Int) := by omega
  have hM0 : (M : Int) ≤ (im.size : Int) := by omega
  have hM1 : M ≤ 1024 := by omega
  clear hE hok hn3 hs hsz hsb hL0 hL5
  obtain ⟨W1, hW1⟩ : ∃ W, W = w.alloc (.cells (L0.map bval).toArray 5) := ⟨_, rfl⟩
  obtain ⟨g0, hg0⟩ : ∃ g, g = w.heap.size := ⟨_, rfl⟩
  have R1 := Box.mk (show W1.heap[g0]? = some (.cells (L0.map bval).toArray 5 (0, 0)) by rw [hW1, hg0]; exact heap_alloc_new _ _)
  have B1 := Box.mk (show Below w.heap.size w W1 by rw [hW1]; exact (Below.refl _ _).alloc (Nat.le_refl _) _)
  obtain ⟨W2, hW2⟩ : ∃ W, W = W1.setRow g0 ((L0.map bval).toArray.toList.take 0 ++ (C.data.toList.take M).map bval ++ (L0.map bval).toArray.toList.drop (0 + M)).toArray := ⟨_, rfl⟩
  have R2 := Box.mk (show W2.heap[g0]? = some (.cells (L1.map bval).toArray 5 (0, 0)) by rw [hW2, hL1]; have := row_lay R1.out 0 C; rw [hCs] at this; exact this)
  have B2 := Box.mk (show Below w.heap.size w W2 by rw [hW2]; exact below_setRow B1.out (by omega) _)
  have HMM : Box (M = min (im.extract 0 M).size 1024) := ⟨by rw [← hC]; omega⟩
  have HFIT : Box (0 + M ≤ (L0.map bval).toArray.size) := ⟨by rw [List.size_toArray, List.length_map, l0]; omega⟩
  rw [hC] at hW2
  have HW2 := Box.mk hW2
  have hcv := conv_row (n := 1024) V hV l1 R2.out
  obtain ⟨W3, hW3⟩ : ∃ W, W = W2.alloc (.cells (L5.map bval).toArray 5) := ⟨_, rfl⟩
  have B3 := Box.mk (show Below w.heap.size w W3 by rw [hW3]; exact B2.out.alloc B2.out.size _)
  have hcv5 : ∀ wx : World, (convert 42 9 (.slice (some ⟨wx.heap.size, 0, none⟩) 512 512)).run Tryz.prog (wx.alloc (.cells (L5.map bval).toArray 5)) = .ok (.string Z) (wx.alloc (.cells (L5.map bval).toArray 5)) := fun wx => conv_row (n := 512) Z hZ l5 (heap_alloc_new _ _)
  clear hW2 hC hV hZ hCs hL1 l0 l1 l5 hM
  go_enter Tryz.func5, Tryz.ntmps5
  go_upto_region 2 with (fail)
  rw [← hW1, ← hg0]
  clear hW1 hg0 hmk
  go_upto_region 3 with ((with_reducible refine wpList_copy_str rfl (.tmp 14) (.tmp 19) 42 9 rfl 5 Tryz.underlying42 HINF.out g0 0 1024 1024 (im.extract 0 M) rfl rfl _ 5 R1.out M HMM.out HFIT.out W2 HW2.out ?_))
  clear HW2 HMM HFIT R1 B1 hmi hM0 hM1
  go_upto_region 4 with (fail)
  clear hcv
  go_wp2_with fail
  rw [← hIMG]
  refine (OP.out _).mono ?_
  rintro e w3 ⟨p, bb, cb, rfl, hf, h1, h2, h3, hb⟩
  have F3 := Box.mk hf
  rw [← hW3] at h1 h2 h3 hb
  have LO3 := Box.mk (show w.heap.size ≤ p ∧ w.heap.size ≤ bb ∧ w.heap.size ≤ cb from ⟨Nat.le_trans B3.out.size h1, Nat.le_trans B3.out.size h2, Nat.le_trans B3.out.size h3⟩)
  have B4 := Box.mk (B3.out.trans (hb.mono B3.out.size))
  clear hf h1 h2 h3 hb OP hW3
  obtain ⟨W5, hW5⟩ : ∃ W, W = w3.alloc (.cells (L5.map bval).toArray 5) := ⟨_, rfl⟩
  have B5 := Box.mk (show Below w.heap.size w W5 by rw [hW5]; exact B4.out.alloc B4.out.size _)
  have F5 := Box.mk (show Fl 84 W5 p bb cb s by rw [hW5]; exact F3.out.upd ((Upd.refl [] _).alloc _) (by simp) (by simp) (by simp))
  go_wp2_with fail
  rw [← hIMG]
  refine (ROP.out _).mono ?_
  rintro e w6 ⟨p', bb', cb', rfl, hf, h1, h2, h3, hb⟩
  rw [← hW5] at h1 h2 h3 hb
  have F6 := Box.mk (F5.out.upd (Upd.of_below (S := []) hb) (by simp) (by simp) (by simp))
  have RF6 := Box.mk hf
  have B6 := Box.mk (B5.out.trans (hb.mono B5.out.size))
  clear hf h1 h2 h3 hb ROP hW5 F5 F3 B5 B4 B3 B2 R2 hmk5 hcv5 hIMG
  go_wp2_with fail
  refine (two_any p bb cb s _ F6.out HN.out).mono ?_
  rintro e w7 ⟨q, rfl, hpa, hq, hb⟩
  have NQ : Box (q ∉ [p, bb, cb]) := ⟨by have := F6.out.lt; simp only [List.mem_cons, List.not_mem_nil, or_false, not_or]; omega⟩
  have P7 := Box.mk hpa
  have F7 := Box.mk (F6.out.upd (Upd.of_below (S := []) hb) (by simp) (by simp) (by simp))
  have RF7 := Box.mk (RF6.out.upd (Upd.of_below (S := []) hb) (by simp) (by simp) (by simp))
  have B7 := Box.mk (B6.out.trans (hb.mono B6.out.size))
  clear hpa hq hb F6 RF6 B6
  go_wp2_with fail
  refine (rpnew_yes p' bb' cb' 1 2 s _ RF7.out HIN.out).mono ?_
  rintro e w8 ⟨q', rfl, hpa, hq, hb⟩
  have NQ' : Box (q' ∉ [p', bb', cb']) := ⟨by have := RF7.out.lt; simp only [List.mem_cons, List.not_mem_nil, or_false, not_or]; omega⟩
  have RP8 := Box.mk (show RPa w8 q' p' ((1 : Nat) : Int) 2 from hpa)
  have P8 := Box.mk (P7.out.upd (Upd.of_below (S := []) hb) (by simp))
  have F8 := Box.mk (F7.out.upd (Upd.of_below (S := []) hb) (by simp) (by simp) (by simp))
  have RF8 := Box.mk (RF7.out.upd (Upd.of_below (S := []) hb) (by simp) (by simp) (by simp))
  have B8 := Box.mk (B7.out.trans (hb.mono B7.out.size))
  clear hpa hq hb F7 RF7 P7 B7
  go_wp2_with fail
  refine (bopen_any a0 q p bb cb 1 s _ (HE.out.below B8.out GE.out) F8.out HOK.out P8.out HIN.out NQ.out).mono ?_
  rintro e w9 ⟨hb, hm⟩
  have RP9 := Box.mk (RP8.out.upd (Upd.of_below (S := []) hb) (by simp))
  have RF9 := Box.mk (RF8.out.upd (Upd.of_below (S := []) hb) (by simp) (by simp) (by simp))
  have BE8 := Box.mk (B8.out.trans (hb.mono B8.out.size))
  have RO := Box.mk (rbopen_any q' p' bb' cb' 1 s _ RF9.out HOK.out RP9.out HIN.out NQ'.out)
  unfold RBOpn at RO
  clear hb F8 RF8 P8 RP8 B8
  cases hop : s.bopen 1 with
  | error x => as_aux_lemma =>
    rw [hop] at hm RO
    dsimp only at hm RO
    subst hm
    go_wp2_with fail
    refine RO.out.mono ?_
    rintro e w10 ⟨hb, rfl⟩
    have BE9 := Box.mk (BE8.out.trans (hb.mono BE8.out.size))
    have HE9 : Box (∀ w1, Upd [] w10.drew w1 → ErrAt w1 a0) := ⟨fun w1 hu => HE.out.below (BE9.out.trans ((Upd.belowN ((Upd.refl [] w10).drew.trans hu)).mono BE9.out.size)) GE.out⟩
    clear hb hop RO
    go_upto_region 16 with (fail)
    refine Gd.wp_region_mixS [] (fun _ => True) (Stb.tt) (trivial) (fun _ h => by cases h) 32 [.cha, .flo, .flo, .flo, .flo, .flo, .flo, .flo, .flo, .flo, .cha, .flo, .flo, .flo, .flo, .flo, .flo, .flo, .cha, .flo, .flo, .flo, .flo, .flo, .flo, .flo, .flo, .cha, .flo, .flo, .flo, .flo] (by kernel_rfl) (by kernel_rfl) rfl ?_
    simp only [List.take, List.zip, List.zipWith]
    try go_frame
    refine Gd.yes (by kernel_rfl) (gm_call [] (by kernel_rfl) rfl rfl (Stb.tt) (fun w1 hw1 hF1 => (FX.out w1 (HE9.out w1 hw1.upd)).mono ?_))
    rintro e w2 ⟨rfl, hb⟩
    refine ⟨_, rfl, hb, gm_nil ?_⟩
    try go_frame
    refine Gd.yes (by kernel_rfl) (gm_move (.tmp 87) (.inl rfl) (.bool true) rfl (gm_nil ?_))
    try go_frame
    refine Gd.yes (by kernel_rfl) (gm_move (.tmp 11) (.inl rfl) (.pointer none) rfl (gm_nil ?_))
    try go_frame
    refine Gd.yes (by kernel_rfl) (gm_flo (.bool true) (fun w1 hw1 => ?_) (gm_nil ?_))
    · go_simp
    try go_frame
    refine Gd.yes (by kernel_rfl) (gm_move (.tmp 90) (.inl rfl) (.bool true) rfl (gm_nil ?_))
    try go_frame
    refine Gd.no (by kernel_rfl) ?_
    try go_frame
    refine Gd.no (by kernel_rfl) ?_
    try go_frame
    refine Gd.yes (by kernel_rfl) (gm_flo (.bool true) (fun w1 hw1 => ?_) (gm_nil ?_))
    · go_simp
    try go_frame
    refine Gd.yes (by kernel_rfl) (gm_move (.tmp 94) (.inl rfl) (.bool true) rfl (gm_nil ?_))
    try go_frame
    refine Gd.no (by kernel_rfl) ?_
    try go_frame
    refine Gd.noC (by kernel_rfl) (Stb.tt) ?_
    try go_frame
    refine Gd.no (by kernel_rfl) ?_
    try go_frame
    refine Gd.no (by kernel_rfl) ?_
    try go_frame
    refine Gd.no (by kernel_rfl) ?_
    try go_frame
    refine Gd.no (by kernel_rfl) ?_
    try go_frame
    refine Gd.no (by kernel_rfl) ?_
    try go_frame
    refine Gd.no (by kernel_rfl) ?_
    try go_frame
    refine Gd.no (by kernel_rfl) ?_
    try go_frame
    refine Gd.noC (by kernel_rfl) (Stb.tt) ?_
    try go_frame
    refine Gd.no (by kernel_rfl) ?_
    try go_frame
    refine Gd.no (by kernel_rfl) ?_
    try go_frame
    refine Gd.no (by kernel_rfl) ?_
    try go_frame
    refine Gd.no (by kernel_rfl) ?_
    try go_frame
    refine Gd.no (by kernel_rfl) ?_
    try go_frame
    refine Gd.no (by kernel_rfl) ?_
    try go_frame
    refine Gd.no (by kernel_rfl) ?_
    try go_frame
    refine Gd.no (by kernel_rfl) ?_
    try go_frame
    refine Gd.noC (by kernel_rfl) (Stb.tt) ?_
    try go_frame
    refine Gd.no (by kernel_rfl) ?_
    try go_frame
    refine Gd.no (by kernel_rfl) ?_
    try go_frame
    refine Gd.yes (by kernel_rfl) (gm_flo (.bool true) (fun w1 hw1 => ?_) (gm_nil ?_))
    · go_simp
    try go_frame
    refine Gd.yes (by kernel_rfl) (gm_flo (.bool true) (fun w1 hw1 => ?_) (gm_nil ?_))
    · go_simp
    try go_frame
    refine Gd.nil ?_
    intro w9 hw9 hF9
    simp only [List.drop]
    try go_frame
    have B9 := Box.mk ((Upd.refl [] w10).drew.trans hw9.upd)
    clear hw9 hF9
    go_wp2_with fail
    go_ret
    exact ⟨rfl, BE9.out.trans ((Upd.belowN B9.out).mono BE9.out.size)⟩
  | ok t => as_aux_lemma =>
    rw [hop] at hm RO
    dsimp only at hm RO
    obtain ⟨g, rfl, hbt, _⟩ := hm
    have BT9 := Box.mk hbt
    have DEAD := Box.mk (FS.bopen_alive hop)
    clear hop hbt
    go_wp2_with fail
    refine RO.out.mono ?_
    rintro e w10 ⟨hb, g2, rfl, hrb, _⟩
    have BE9 := Box.mk (BE8.out.trans (hb.mono BE8.out.size))
    have HE9 : Box (∀ w1, Upd [] w10.drew w1 → ErrAt w1 a0) := ⟨fun w1 hu => HE.out.below (BE9.out.trans ((Upd.belowN ((Upd.refl [] w10).drew.trans hu)).mono BE9.out.size)) GE.out⟩
    have BT := Box.mk (BT9.out.keep (Upd.of_below hb))
    have RB := Box.mk (hrb.bt)
    have GT : Box (∀ w1, Upd [] w10.drew w1 → Calls Tryz.prog 14 #[.pointer (some ⟨g, 0, none⟩)] w1 fun e w' => e = .returned (.agg #[.int .i64 t.r.slot, .bool t.r.up, .int .i64 t.r.count, .int .i64 t.r.s0, .int .i64 t.r.s1]) ∧ Below w1.heap.size w1 w') := ⟨fun w1 hu => bget_any g q t w1 (BT.out.keep ((Upd.refl [] w10).drew.trans hu)).bt⟩
    have SQ : Box (∀ w1, Upd [] w10.drew w1 → Calls Tryz.prog 13 #[.pointer (some ⟨g, 0, none⟩)] w1 fun e w' => e = .returned (.int .i64 (t.seq : Int)) ∧ Below w1.heap.size w1 w') := ⟨fun w1 hu => (bseq_any g q t w1 (BT.out.keep ((Upd.refl [] w10).drew.trans hu)).bt).mono fun _ _ h => ⟨h.1, h.2 ▸ Below.refl _ _⟩⟩
    have DE : Box (∀ w1, Upd [] w10.drew w1 → Calls Tryz.prog 22 #[.pointer (some ⟨g, 0, none⟩)] w1 fun e w' => e = .returned (.bool false) ∧ Below w1.heap.size w1 w') := ⟨fun w1 hu => (bdead_any g q t w1 (BT.out.keep ((Upd.refl [] w10).drew.trans hu)).bt).mono fun _ _ h => ⟨by rw [h.1, DEAD.out], h.2 ▸ Below.refl _ _⟩⟩
    have EQB := Box.mk (fun w => (eq_rec t.r t.r w).trans (by rw [decide_eq_true rfl]))
    clear hb hrb RO BT9
    go_upto_region 16 with (fail)
    refine Gd.wp_region_mixS [] (fun _ => True) (Stb.tt) (trivial) (fun _ h => by cases h) 32 [.cha, .flo, .flo, .flo, .flo, .flo, .flo, .flo, .flo, .flo, .cha, .flo, .flo, .flo, .flo, .flo, .flo, .flo, .cha, .flo, .flo, .flo, .flo, .flo, .flo, .flo, .flo, .cha, .flo, .flo, .flo, .flo] (by kernel_rfl) (by kernel_rfl) rfl ?_
    simp only [List.take, List.zip, List.zipWith]
    try go_frame
    refine Gd.yes (by kernel_rfl) (gm_call [] (by kernel_rfl) rfl rfl (Stb.tt) (fun w1 hw1 hF1 => (FX.out w1 (HE9.out w1 hw1.upd)).mono ?_))
    rintro e w2 ⟨rfl, hb⟩
    refine ⟨_, rfl, hb, gm_nil ?_⟩
    try go_frame
    refine Gd.yes (by kernel_rfl) (gm_move (.tmp 87) (.inl rfl) (.bool true) rfl (gm_nil ?_))
    try go_frame
    refine Gd.yes (by kernel_rfl) (gm_move (.tmp 11) (.inl rfl) (.pointer (some ⟨g, 0, none⟩)) rfl (gm_nil ?_))
    try go_frame
    refine Gd.yes (by kernel_rfl) (gm_flo (.bool false) (fun w1 hw1 => ?_) (gm_nil ?_))
    · go_simp
    try go_frame
    refine Gd.yes (by kernel_rfl) (gm_move (.tmp 90) (.inl rfl) (.bool false) rfl (gm_nil ?_))
    try go_frame
    refine Gd.yes (by kernel_rfl) (gm_move (.tmp 12) (.inl rfl) (.pointer (some ⟨g2, 0, none⟩)) rfl (gm_nil ?_))
    try go_frame
    refine Gd.yes (by kernel_rfl) (gm_flo (.bool false) (fun w1 hw1 => ?_) (gm_nil ?_))
    · go_simp
    try go_frame
    refine Gd.yes (by kernel_rfl) (gm_flo (.bool false) (fun w1 hw1 => ?_) (gm_nil ?_))
    · go_simp
    try go_frame
    refine Gd.yes (by kernel_rfl) (gm_move (.tmp 94) (.inl rfl) (.bool false) rfl (gm_nil ?_))
    try go_frame
    refine Gd.yes (by kernel_rfl) (gm_move (.tmp 11) (.inl rfl) (.pointer (some ⟨g, 0, none⟩)) rfl (gm_nil ?_))
    try go_frame
    refine Gd.yes (by kernel_rfl) (gm_call [.pointer (some ⟨g, 0, none⟩)] (by kernel_rfl) rfl rfl (Stb.tt) (fun w1 hw1 hF1 => (GT.out w1 hw1.upd).mono ?_))
    rintro e w2 ⟨rfl, hb⟩
    refine ⟨_, rfl, hb, gm_nil ?_⟩
    try go_frame
    refine Gd.yes (by kernel_rfl) (gm_move (.tmp 12) (.inl rfl) (.pointer (some ⟨g2, 0, none⟩)) rfl (gm_nil ?_))
    try go_frame
    refine Gd.yes (by kernel_rfl) (gm_flo (.pointer (some ⟨g2, 0, none⟩)) (fun w1 hw1 => ?_) (gm_nil ?_))
    · go_simp
    try go_frame
    refine Gd.yes (by kernel_rfl) (gm_flo (.pointer (some ⟨g2, 1, none⟩)) (fun w1 hw1 => ?_) (gm_nil ?_))
    · go_simp
    try go_frame
    refine Gd.yes (by kernel_rfl) (gm_loadMB (.tmp 100) rfl g2 1 _ 59 RB.out.row (by simp) rfl t.r (fun j u h => by match j, h with | 0, h => exact h | 1, h => exact h | 2, h => exact h | 3, h => exact h | 4, h => exact h | _ + 5, h => simp [brC] at h) (gm_nil ?_))
    try go_frame
    refine Gd.yes (by kernel_rfl) (gm_flo (.bool true) (fun w1 hw1 => ?_) (gm_nil ?_))
    · have EQ := EQB.out
      go_simp
    try go_frame
    refine Gd.yes (by kernel_rfl) (gm_move (.tmp 102) (.inl rfl) (.bool true) rfl (gm_nil ?_))
    try go_frame
    refine Gd.yes (by kernel_rfl) (gm_move (.tmp 11) (.inl rfl) (.pointer (some ⟨g, 0, none⟩)) rfl (gm_nil ?_))
    try go_frame
    refine Gd.yes (by kernel_rfl) (gm_call [.pointer (some ⟨g, 0, none⟩)] (by kernel_rfl) rfl rfl (Stb.tt) (fun w1 hw1 hF1 => (SQ.out w1 hw1.upd).mono ?_))
    rintro e w2 ⟨rfl, hb⟩
    refine ⟨_, rfl, hb, gm_nil ?_⟩
    try go_frame
    refine Gd.yes (by kernel_rfl) (gm_move (.tmp 12) (.inl rfl) (.pointer (some ⟨g2, 0, none⟩)) rfl (gm_nil ?_))
    try go_frame
    refine Gd.yes (by kernel_rfl) (gm_flo (.pointer (some ⟨g2, 0, none⟩)) (fun w1 hw1 => ?_) (gm_nil ?_))
    · go_simp
    try go_frame
    refine Gd.yes (by kernel_rfl) (gm_flo (.pointer (some ⟨g2, 6, none⟩)) (fun w1 hw1 => ?_) (gm_nil ?_))
    · go_simp
    try go_frame
    refine Gd.yes (by kernel_rfl) (gm_flo (.int .i64 (t.seq : Int)) (fun w1 hw1 => ?_) (gm_nil ?_))
    · have e1 : w1.cell? ⟨g2, 6, none⟩ = some (.int .i64 (t.seq : Int)) := (cell_of_row _ _ _ _ _ _ (hw1.at (by simp) RB.out.row)).trans rfl
      go_simp
    try go_frame
    refine Gd.yes (by kernel_rfl) (gm_flo (.bool true) (fun w1 hw1 => ?_) (gm_nil ?_))
    · go_simp
    try go_frame
    refine Gd.yes (by kernel_rfl) (gm_flo (.bool true) (fun w1 hw1 => ?_) (gm_nil ?_))
    · go_simp
    try go_frame
    refine Gd.yes (by kernel_rfl) (gm_move (.tmp 111) (.inl rfl) (.bool true) rfl (gm_nil ?_))
    try go_frame
    refine Gd.yes (by kernel_rfl) (gm_move (.tmp 11) (.inl rfl) (.pointer (some ⟨g, 0, none⟩)) rfl (gm_nil ?_))
    try go_frame
    refine Gd.yes (by kernel_rfl) (gm_call [.pointer (some ⟨g, 0, none⟩)] (by kernel_rfl) rfl rfl (Stb.tt) (fun w1 hw1 hF1 => (DE.out w1 hw1.upd).mono ?_))
    rintro e w2 ⟨rfl, hb⟩
    refine ⟨_, rfl, hb, gm_nil ?_⟩
    try go_frame
    refine Gd.yes (by kernel_rfl) (gm_flo (.bool true) (fun w1 hw1 => ?_) (gm_nil ?_))
    · go_simp
    try go_frame
    refine Gd.yes (by kernel_rfl) (gm_flo (.bool true) (fun w1 hw1 => ?_) (gm_nil ?_))
    · go_simp
    try go_frame
    refine Gd.yes (by kernel_rfl) (gm_flo (.bool true) (fun w1 hw1 => ?_) (gm_nil ?_))
    · go_simp
    try go_frame
    refine Gd.yes (by kernel_rfl) (gm_flo (.bool true) (fun w1 hw1 => ?_) (gm_nil ?_))
    · go_simp
    try go_frame
    refine Gd.nil ?_
    intro w9 hw9 hF9
    simp only [List.drop]
    try go_frame
    have B9 := Box.mk ((Upd.refl [] w10).drew.trans hw9.upd)
    clear hw9 hF9
    go_wp2_with fail
    go_ret
    exact ⟨rfl, BE9.out.trans ((Upd.belowN B9.out).mono BE9.out.size)⟩
theorem own : ownKnob Tryz.prog.godebug = none := by kernel_rfl
theorem laidOut : laidOutB Tryz.prog = true := by kernel_rfl
theorem gE : Tryz.prog.globalNamed "farrier/boot.errNone" = some 0 := by kernel_rfl
theorem gEType : (Tryz.prog.globals[0]?).map (·.type) = some 93 := by kernel_rfl
theorem cellsS : Tryz.prog.cellsOf 174 = 1 := by kernel_rfl
theorem cells9 : Tryz.prog.cellsOf 9 = 1 := by kernel_rfl
theorem star : "*" ++ "errors.errorString" = "*errors.errorString" := by decide
theorem rowE (u : TypeId) (h : Tryz.prog.typeName? 3 u = some "*errors.errorString") : u = 152 :=
  typeName_ptr_named (nm := "errors.errorString") (by rw [star]; kernel_rfl) (by kernel_rfl) (by decide) u (by rw [star]; exact h)
noncomputable def low : Nat := (World.holding Tryz.prog default ⟨#[], #[], []⟩).heap.size
noncomputable def laidWorld (os : Os) : World :=
  let w0 := World.holding Tryz.prog os ⟨#[.cells #[.string ⟨#[110, 111, 32, 114, 101, 99, 111, 114, 100]⟩] 174], #[], []⟩
  { w0 with heap := w0.heap.modify 0 fun
      | .cells _ t frozen => .cells #[.iface 152 (.pointer (some ⟨low, 0, none⟩))] t frozen
      | o => o }
theorem laid_met (os : Os) (args : Array Value) : laidMet Tryz.prog Rows.bootReadsRow.laid ((laidWorld os).forCall (fun _ _ => 0) ⟨#[], args, []⟩).memory :=
  laidMet_of_run (ps := [.cell 0 0, .cell low 0]) 8 (by kernel_rfl) (by kernel_rfl) (by kernel_rfl)
theorem contract (H : Type) (enc : TypeId × Value → H) (W : World) (base : Nat) (args : Array Value) (ds gs : List (DataW H)) (before : List MemPlace)
    (hval0 : ∀ (j : Nat) t v, Tryz.f5.params[j]? = some t → args[j]? = some v → Value.okWide Tryz.prog W .any base t v)
    (hW : DataW.Whole enc Tryz.prog Tryz.f5.params.toList Rows.bootReadsSpec.vars false W args.toList ds gs before) (hL : laidMetH Tryz.prog Rows.bootReadsRow.laid W) :
    Calls Tryz.prog 5 args W fun e W' => ∃ v, e = .returned v ∧ Rows.bootReadsSpec.post enc Tryz.prog Tryz.f5 false true false false W args v W' := by
  have hval : ∀ (j : Nat) t v, Tryz.f5.params[j]? = some t → args[j]? = some v → Value.okWide Tryz.prog W .any base t v := hval0
  obtain ⟨a0, s9, hv9, hc9, hs9, hz9⟩ := laid_sentinel hL gE gEType Tryz.underlying93 rowE Tryz.underlying152 Tryz.underlying174 rfl rfl Tryz.underlying9 cellsS cells9
  have hE : ErrAt W a0 := by unfold ErrAt; simpa using World.var?_cell gE hv9 0
  have hW' := hW
  obtain ⟨p, q, hA0, hV, rfl, hfz, hnd⟩ := hW
  have hA : DataW.TrodAll enc Tryz.prog W 0 (fun _ => true) true Tryz.f5.params.toList args.toList ds p := hA0
  rw [Tryz.params5] at hA hval
  obtain ⟨v0, vs0, d0, ds0, p0, q0, hargs, rfl, rfl, h0, r0⟩ := trodAll_cons hA
  obtain ⟨rfl, rfl, rfl⟩ := trodAll_nil r0
  obtain rfl : args = #[v0] := by cases args; simp_all
  obtain ⟨rfl, rfl⟩ := trodVars_none hV
  obtain ⟨s0, rfl, rfl, rfl, ws0⟩ := open_string Tryz.underlying9 (hval 0 9 v0 rfl rfl) h0
  clear hA0 hval0
  refine (walk s0 ws0 W a0 hE).mono fun e W' ⟨he, bel⟩ => ?_
  subst he
  exact ⟨_, rfl, _, _, _, [], _, [], hW', trodAll_mk1 (shut_bool Tryz.underlying4 _), (trodAll_cons_mk (shut_string Tryz.underlying9 ws0) trodAll_mk0), rfl, bel.frame _, fun h => by cases h⟩
set_option maxRecDepth 100000 in
theorem lifted (os : Os) (started : os.Started) (H : Type) (enc : TypeId × Value → H) (F : Stop.Interp) :
    ReturnsInHanded {} Tryz.checked os 5 .any ((OpenSpec.ofChange Rows.bootReadsSpec).preRow enc Tryz.prog Tryz.f5 Rows.bootReadsRow.domain false Rows.bootReadsRow.laid) (((OpenSpec.ofChange Rows.bootReadsSpec).at F).post enc Tryz.prog Tryz.f5 false true false false) := by
  refine returnsInHanded_of_row (C := Tryz.checked) (s := OpenSpec.ofChange Rows.bootReadsSpec) own started (by kernel_rfl) Tryz.func5
    (witness_row_at (enc := enc) (C := Tryz.checked) false (laidWorld os) #[.string ⟨#[]⟩] rfl (by kernel_rfl) (by kernel_rfl) (by kernel_rfl)
      (OpenSpec.preRow_of_B rfl 8 (by kernel_rfl) (by kernel_rfl) (laid_met os _))) ?_
  intro W base args ds gs before hval hW _ _ _ hL _ _
  exact contract H enc W base args ds gs before hval hW hL
set_option maxRecDepth 100000 in
theorem said : Rows.BootReadsSaid :=
  OpenClaim.holds_of_cond 5 Tryz.f5 rfl rfl rfl rfl rfl rfl rfl ⟨rfl, rfl, rfl, rfl, rfl⟩ rfl rfl rfl rfl rfl (by kernel_rfl) Tryz.func5 (by kernel_rfl)
    (of_decide_eq_true (by kernel_rfl)) (by unfold Func.isWrapper; first | (rw [if_pos (by decide +kernel)]; kernel_rfl) | (rw [if_neg (by decide +kernel)]; exact ⟨rfl, rfl⟩))
    (fun os started H enc _ F => by rw [OpenClaim.pre_eq_preRow]; exact lifted os started H enc F)
theorem plain (f : FuncId) (fn : Func) (hf : Tryz.pinned.checked.prog.funcNamed "farrier/farrierlaw13.BootReads" = some f) (hfn : Tryz.pinned.checked.prog.funcs[f]? = some fn) :
    true = Tryz.pinned.checked.prog.looks [] ∧ ∀ (j : Nat) t, fn.params[j]? = some t → Tryz.pinned.checked.prog.wantsStandIn t = false := by
  obtain rfl : f = 5 := Option.some.inj ((show Tryz.prog.funcNamed "farrier/farrierlaw13.BootReads" = some 5 by kernel_rfl).symm.trans hf) |>.symm
  obtain rfl : fn = Tryz.f5 := (Option.some.inj (Tryz.func5.symm.trans hfn)).symm
  refine ⟨by kernel_rfl, fun j t ht => ?_⟩
  rw [Tryz.params5] at ht
  have hall : (Tryz.f5.params.toList.all fun t => !Tryz.prog.wantsStandIn t) = true := by kernel_rfl
  rw [Tryz.params5] at hall
  have := List.all_eq_true.1 hall t (by simpa using Array.mem_of_getElem? ht)
  show Tryz.prog.wantsStandIn t = false
  simpa using this
theorem proved : Rows.BootReadsCardSaid :=
  Claim7.holds_tied_plain_at .later [] _ _ _ _ said (fun _ h => by cases h) (by kernel_rfl) (fun _ h => by cases h) bootReads_row_tie rfl ⟨rfl, rfl⟩ (by kernel_rfl) rfl plain (by kernel_rfl)
#print axioms proved
end Go.Proofs.YtgcbmjflodgnbaaGreatDoor.bootReads
