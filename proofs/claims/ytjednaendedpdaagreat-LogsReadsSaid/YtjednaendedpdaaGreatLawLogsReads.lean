/- Whatever bytes come in, the call of LogsReads returns true and leaves its argument as it was. No condition. -/
import Derived.Test.YtjednaendedpdaaGreatM15
import Derived.Test.YtjednaendedpdaaGreatM24
import Derived.Test.YtjednaendedpdaaGreatM23
import Derived.IntWalk
import Derived.ProofKit
import Derived.OpenShut
import Derived.ShutString
import Derived.ChangeOld
namespace Go.Proofs.YtjednaendedpdaaGreat.logsReads
set_option maxRecDepth 100000
open Go Go.RowKit Go.ChangeShapes Go.WideShapes Go.ChangeAt
open Go.ChangeMaps (open_string shut_string)
set_option linter.unusedVariables false

theorem zrow (n : Nat) : Array.replicate n (Value.int .u8 0) = ((List.replicate n (0 : UInt8)).map bval).toArray := by
  rw [List.map_replicate, ← List.toArray_replicate]; rfl
theorem mk_zero (n : Nat) (x : Int) (hx : x = n) (h : n ≤ 1000000) (L : List UInt8) (hL : L = List.replicate n 0) (w : World) : (Instr.makeSlice 22 (.int .i64 x) (.int .i64 x)).run Tryz.prog w = .ok (.slice (some ⟨w.heap.size, 0, none⟩) n n) (w.alloc (.cells (L.map bval).toArray 5)) := by
  rw [make_bytes n x hx h w, zrow, hL]
theorem conv_row {w : World} {g n : Nat} {L : List UInt8} (V : ByteArray) (hV : V = ⟨L.toArray⟩) (hn : L.length = n) (h : w.heap[g]? = some (.cells (L.map bval).toArray 5 (0, 0))) : (convert 22 9 (.slice (some ⟨g, 0, none⟩) n n)).run Tryz.prog w = .ok (.string V) w := by
  rw [hV]
  exact run_bytes_at Tryz.prog w g 0 n L 22 9 5 n hn Tryz.underlying22 Tryz.underlying5 Tryz.underlying9 (fun i u hu => by
    rw [Nat.zero_add, cell_of_row _ _ _ _ _ _ h, List.getElem?_toArray, List.getElem?_map, hu]; rfl)
/-- So many bytes are laid over a list's, from a place on. -/
def layL (L : List UInt8) (o : Nat) (N : List UInt8) : List UInt8 := L.take o ++ N ++ L.drop (o + N.length)
theorem layL_len {L : List UInt8} {o : Nat} {N : List UInt8} (h : o + N.length ≤ L.length) : (layL L o N).length = L.length := by
  unfold layL; simp; omega
theorem row_lay {w : World} {g : Nat} {L : List UInt8} (h : w.heap[g]? = some (.cells (L.map bval).toArray 5 (0, 0))) (o : Nat) (N : ByteArray) :
    (w.setRow g ((L.map bval).toArray.toList.take o ++ (N.data.toList.take N.size).map bval ++ (L.map bval).toArray.toList.drop (o + N.size)).toArray).heap[g]? = some (.cells ((layL L o N.data.toList).map bval).toArray 5 (0, 0)) := by
  rw [setRow_heap _ _ _ _ _ _ h]
  congr 2
  unfold layL
  have hN : N.data.toList.length = N.size := by simp
  rw [show N.data.toList.take N.size = N.data.toList from List.take_of_length_le (by omega), hN]
  simp [List.map_take, List.map_drop]
theorem lopen_ok {s : FS} {F B : Nat} {segs : List (Nat × Nat)} (h : s.lopen F B = .ok segs) (hB : 4 ≤ B) : LS.Ok ⟨segs, false⟩ B ∧ ∀ x ∈ segs, x.2 ≠ 0 := by
  unfold FS.lopen at h
  rw [if_neg (by omega)] at h
  split at h
  · cases h
  · dsimp only at h
    have hl : (s.nums F B).length = B := by simp [FS.nums]
    generalize s.nums F B = nums at h hl
    have hnw : nwst nums B < B := (nwst_spec nums B).2 (by omega)
    generalize nwst nums B = nw at h hnw
    split at h
    · cases h
    · rename_i hc
      injection h with h
      have hrun := runB_le nums.length (backP nums nw)
      have h0 : backP nums nw 0 = true := by
        unfold backP
        rw [hl, Nat.sub_zero, Nat.add_mod_right, Nat.mod_eq_of_lt hnw, Bool.and_eq_true, decide_eq_true_iff, decide_eq_true_iff]
        exact ⟨by omega, rfl⟩
      have hr1 : 0 < runB (backP nums nw) nums.length := by
        rcases Nat.eq_zero_or_pos (runB (backP nums nw) nums.length) with h | h
        · rcases runB_false nums.length (backP nums nw) with h' | h'
          · omega
          · rw [h, h0] at h'; cases h'
        · exact h
      have hsl : segs.length = runB (backP nums nw) nums.length := by rw [← h]; unfold segsOf; simp
      have hmem : ∀ x ∈ segs, x.1 < B ∧ x.2 ≠ 0 := fun x hx => by
        rw [← h] at hx
        unfold segsOf at hx
        rw [List.mem_reverse, List.mem_map] at hx
        obtain ⟨k, hk, rfl⟩ := hx
        rw [List.mem_range] at hk
        have hb := runB_true _ _ k hk
        unfold backP at hb
        rw [Bool.and_eq_true, decide_eq_true_iff] at hb
        refine ⟨?_, ?_⟩
        · show _ % _ < B
          rw [hl]; exact Nat.mod_lt _ (by omega)
        · show _ - k ≠ 0
          have := hb.1; omega
      exact ⟨⟨fun e => by rw [show segs = [] from e] at hsl; simp at hsl; omega, by show segs.length ≤ B; omega, fun x hx => (hmem x hx).1⟩, fun x hx => (hmem x hx).2⟩
set_option maxHeartbeats 8000000 in
theorem walk (im : ByteArray) (wi : im.size ≤ maxLen) (w : World) : Calls Tryz.prog 3 #[.string im] w fun e w' => e = .returned (.bool true) ∧ Below w.heap.size w w' := by
  obtain ⟨L0, hL0⟩ : ∃ L, L = List.replicate 3072 (0 : UInt8) := ⟨_, rfl⟩
  obtain ⟨M, hM⟩ : ∃ M, M = min im.size 2560 := ⟨_, rfl⟩
  obtain ⟨C, hC⟩ : ∃ C, C = im.extract 0 M := ⟨_, rfl⟩
  obtain ⟨L1, hL1⟩ : ∃ L, L = layL L0 512 C.data.toList := ⟨_, rfl⟩
  obtain ⟨V, hV⟩ : ∃ V : ByteArray, V = ⟨L1.toArray⟩ := ⟨_, rfl⟩
  have hCs : C.size = M := by rw [hC, ByteArray.size_extract]; omega
  have l0 : L0.length = 3072 := by rw [hL0, List.length_replicate]
  have hCl : C.data.toList.length = C.size := Array.length_toList
  have l1 : L1.length = 3072 := by rw [hL1, layL_len (by rw [l0, hCl, hCs, hM]; omega)]; exact l0
  clear hCl
  have hmk := fun w => mk_zero 3072 3072 rfl (by omega) L0 hL0 w
  have hVs : V.size = 3072 := by rw [hV]; show L1.toArray.size = _; rw [List.size_toArray, l1]
  have hsb : sizeB V.size = true := by rw [hVs]; unfold sizeB; decide
  have OP := Box.mk (fun w => open_yes V w hsb)
  have ROP := Box.mk (fun w => ropen_yes V w hsb)
  have hok := FS.new_ok (l := V.data.toList) (by rw [show V.data.toList.length = V.size from Array.length_toList]; exact hsb)
  have hn6 : (FS.new V.data.toList).n.length = 6 := by
    unfold FS.new; rw [List.length_replicate, show V.data.toList.length = V.size from Array.length_toList, hVs]
  have hdd : (FS.new V.data.toList).dead = false := rfl
  have hst : (FS.new V.data.toList).steps = 0 := rfl
  obtain ⟨s, hs⟩ : ∃ s, s = FS.new V.data.toList := ⟨_, rfl⟩
  unfold Made at OP ROP
  rw [← hs] at hok hn6 OP ROP hdd hst
  have HOK := Box.mk hok; have HD := Box.mk hdd
  have HIN : Box (In s.n.length ((1 : Nat) : Int) ((5 : Nat) : Int)) := ⟨by rw [hn6]; exact ⟨by omega, by omega, by omega, by omega⟩⟩
  have ST := Box.mk (fun p bb cb w h => steps_any p bb cb s w h)
  rw [hst] at ST
  have HINF : Box ((Tryz.prog.info? 5).map (·.size) = some 1) := ⟨by kernel_rfl⟩
  have HMI : Box (min (im.size : Int) 2560 = (M : Int)) := ⟨by omega⟩
  have HM0 : Box ((M : Int) ≤ (im.size : Int)) := ⟨by omega⟩
  have hM1 : M ≤ 2560 := by omega
  obtain ⟨W1, hW1⟩ : ∃ W, W = w.alloc (.cells (L0.map bval).toArray 5) := ⟨_, rfl⟩
  obtain ⟨g0, hg0⟩ : ∃ g, g = w.heap.size := ⟨_, rfl⟩
  have R1 := Box.mk (show W1.heap[g0]? = some (.cells (L0.map bval).toArray 5 (0, 0)) by rw [hW1, hg0]; exact heap_alloc_new _ _)
  have B1 := Box.mk (show Below w.heap.size w W1 by rw [hW1]; exact (Below.refl _ _).alloc (Nat.le_refl _) _)
  have HMM : Box (M = min (im.extract 0 M).size 2560) := ⟨by rw [← hC]; omega⟩
  have HFIT : Box (512 + M ≤ (L0.map bval).toArray.size) := ⟨by rw [List.size_toArray, List.length_map, l0]; omega⟩
  have HG0 := Box.mk hg0
  have HLL := Box.mk (And.intro hL1 (And.intro hC hCs))
  have HVV := Box.mk (And.intro hV l1)
  clear hok hn6 hdd hst hs hsb hVs hL0 hM hC hL1 hV hCs l0 l1 wi
  go_enter Tryz.func3, Tryz.ntmps3
  go_upto_region 3 with (fail)
  rw [← hW1, ← hg0]
  clear hW1 hg0 hmk
  refine wp_region_mix 9 [.flo, .flo, .flo, .flo, .flo, .flo, .flo, .flo, .flo] (by kernel_rfl) (by kernel_rfl) rfl ?_
  simp only [List.take, List.zip, List.zipWith]
  try go_frame
  refine gm_move (.tmp 4) (.inl rfl) (.slice (some ⟨g0, 0, none⟩) 3072 3072) rfl ?_
  try go_frame
  refine gm_flo (.slice (some ⟨g0, 512, none⟩) 2560 2560) (fun w1 hw1 => ?_) ?_
  case refine_1 =>
    go_simp
  try go_frame
  refine gm_move (.tmp 0) (.inl rfl) (.string im) rfl ?_
  try go_frame
  refine gm_move (.tmp 0) (.inl rfl) (.string im) rfl ?_
  try go_frame
  refine gm_flo (.int .i64 (im.size : Int)) (fun w1 hw1 => ?_) ?_
  case refine_1 =>
    go_simp
  try go_frame
  refine gm_move (.tmp 3) (.inl rfl) (.int .i64 3072) rfl ?_
  try go_frame
  refine gm_flo (.int .i64 2560) (fun w1 hw1 => ?_) ?_
  case refine_1 =>
    have e9 : IntKind.i64.wrap 2560 = 2560 := by rw [IntKind.wrap_i64]; omega
    go_simp
  try go_frame
  refine gm_flo (.int .i64 (M : Int)) (fun w1 hw1 => ?_) ?_
  case refine_1 =>
    have e9 := HMI.out
    go_simp
  try go_frame
  refine gm_flo (.string (im.extract 0 M)) (fun w1 hw1 => ?_) ?_
  case refine_1 =>
    have e9 := HM0.out
    go_simp
  try go_frame
  refine gm_nil ?_
  intro w9 hw9 hF9
  simp only [List.drop]
  try go_frame
  have R9 := Box.mk (show w9.heap[g0]? = some (.cells (L0.map bval).toArray 5 (0, 0)) from (Below.block hw9 g0 (Array.getElem?_eq_some_iff.1 R1.out).1).trans R1.out)
  have B9 := Box.mk (show Below w.heap.size w w9 from B1.out.trans (((Below.refl _ _).drew.trans hw9).mono B1.out.size))
  obtain ⟨W2, hW2⟩ : ∃ W, W = w9.setRow g0 ((L0.map bval).toArray.toList.take 512 ++ ((im.extract 0 M).data.toList.take M).map bval ++ (L0.map bval).toArray.toList.drop (512 + M)).toArray := ⟨_, rfl⟩
  have R2 := Box.mk (show W2.heap[g0]? = some (.cells (L1.map bval).toArray 5 (0, 0)) by
    rw [hW2, HLL.out.1, ← HLL.out.2.1]; have := row_lay R9.out 512 C; rw [HLL.out.2.2] at this; exact this)
  have B2 := Box.mk (show Below w.heap.size w W2 by rw [hW2]; exact below_setRow B9.out (by rw [HG0.out]; exact Nat.le_refl _) _)
  have HW2 := Box.mk hW2
  clear hW2 hw9 hF9 R1 B1
  go_upto_region 4 with ((with_reducible refine wpList_copy_str rfl (.tmp 16) (.tmp 23) 22 9 rfl 5 Tryz.underlying22 HINF.out g0 512 2560 2560 (im.extract 0 M) rfl rfl _ 5 R9.out M HMM.out HFIT.out W2 HW2.out ?_))
  clear HW2 HMM HFIT R9 B9 HMI HM0 hM1
  have hcv := conv_row (n := 3072) V HVV.out.1 HVV.out.2 R2.out
  go_wp2_with fail
  refine (OP.out _).mono ?_
  rintro e w3 ⟨p, bb, cb, rfl, hf, h1, h2, h3, hb⟩
  have F3 := Box.mk hf
  have B3 := Box.mk (B2.out.trans (hb.mono B2.out.size))
  have R3 := Box.mk ((hb.block g0 (Array.getElem?_eq_some_iff.1 R2.out).1).trans R2.out)
  clear hf h1 h2 h3 hb OP hcv R2 B2
  have hcv := conv_row (n := 3072) V HVV.out.1 HVV.out.2 R3.out
  go_wp2_with fail
  refine (ROP.out _).mono ?_
  rintro e w4 ⟨p', bb', cb', rfl, hf, h1, h2, h3, hb⟩
  have F4 := Box.mk (F3.out.upd (Upd.of_below (S := []) hb) (by simp) (by simp) (by simp))
  have RF4 := Box.mk hf
  have B4 := Box.mk (B3.out.trans (hb.mono B3.out.size))
  clear hf h1 h2 h3 hb ROP hcv R3 B3 F3
  go_wp2_with fail
  refine (lover_in p bb cb 5 s _ F4.out HIN.out).mono ?_
  rintro e w5 ⟨q, rfl, hpa, hq, hb⟩
  have NQ : Box (q ∉ [p, bb, cb]) := ⟨by have := F4.out.lt; simp only [List.mem_cons, List.not_mem_nil, or_false, not_or]; omega⟩
  have P5 := Box.mk (show Pa w5 q p ((1 : Nat) : Int) ((5 : Nat) : Int) from hpa)
  have F5 := Box.mk (F4.out.upd (Upd.of_below (S := []) hb) (by simp) (by simp) (by simp))
  have RF5 := Box.mk (RF4.out.upd (Upd.of_below (S := []) hb) (by simp) (by simp) (by simp))
  have B5 := Box.mk (B4.out.trans (hb.mono B4.out.size))
  clear hpa hq hb F4 RF4 B4
  go_wp2_with fail
  refine (region_any 5 _).mono ?_
  rintro e w6 ⟨rfl, hb⟩
  have P6 := Box.mk (P5.out.upd (Upd.of_below (S := []) hb) (by simp))
  have F6 := Box.mk (F5.out.upd (Upd.of_below (S := []) hb) (by simp) (by simp) (by simp))
  have RF6 := Box.mk (RF5.out.upd (Upd.of_below (S := []) hb) (by simp) (by simp) (by simp))
  have B6 := Box.mk (B5.out.trans (hb.mono B5.out.size))
  clear hb F5 RF5 B5 P5
  rw [show bN 5 = 5 from rfl]
  go_wp2_with fail
  refine (rpnew_yes p' bb' cb' 1 5 s _ RF6.out HIN.out).mono ?_
  rintro e w7 ⟨q', rfl, hpa, hq, hb⟩
  have NQ' : Box (q' ∉ [p', bb', cb']) := ⟨by have := RF6.out.lt; simp only [List.mem_cons, List.not_mem_nil, or_false, not_or]; omega⟩
  have RP7 := Box.mk (show RPa w7 q' p' ((1 : Nat) : Int) ((5 : Nat) : Int) from hpa)
  have P7 := Box.mk (P6.out.upd (Upd.of_below (S := []) hb) (by simp))
  have F7 := Box.mk (F6.out.upd (Upd.of_below (S := []) hb) (by simp) (by simp) (by simp))
  have RF7 := Box.mk (RF6.out.upd (Upd.of_below (S := []) hb) (by simp) (by simp) (by simp))
  have B7 := Box.mk (B6.out.trans (hb.mono B6.out.size))
  clear hpa hq hb F6 RF6 P6 B6
  go_wp2_with fail
  refine (lopen_any q p bb cb 1 5 s _ F7.out HOK.out P7.out HIN.out NQ.out).mono ?_
  rintro e w8 ⟨hb, hm⟩
  have RP8 := Box.mk (RP7.out.upd (Upd.of_below (S := []) hb) (by simp))
  have RF8 := Box.mk (RF7.out.upd (Upd.of_below (S := []) hb) (by simp) (by simp) (by simp))
  have F8 := Box.mk (F7.out.upd (Upd.of_below (S := []) hb) (by simp) (by simp) (by simp))
  have B8 := Box.mk (B7.out.trans (hb.mono B7.out.size))
  have RO := Box.mk (rlopen_any q' p' bb' cb' 1 5 s _ RF8.out HOK.out RP8.out HIN.out NQ'.out HD.out)
  unfold ROpn at RO
  clear hb F7 RF7 P7 RP7 B7 RF8 RP8
  cases hop : s.lopen 1 5 with
  | error x => as_aux_lemma =>
    rw [hop] at hm RO
    dsimp only at hm RO
    subst hm
    have hxx : (x != x) = false := by simp
    clear hop
    go_wp2_with fail
    refine RO.out.mono ?_
    rintro e w9 ⟨hb, rfl⟩
    have B9 := Box.mk (B8.out.trans (hb.mono B8.out.size))
    have F9 := Box.mk (F8.out.upd (Upd.of_below (S := []) hb) (by simp) (by simp) (by simp))
    clear hb RO F8 B8
    go_wp2_with fail
    refine (ST.out p bb cb _ F9.out).mono ?_
    rintro e w10 ⟨rfl, rfl⟩
    go_wp2_with fail
    refine (lfixed_any _).mono ?_
    rintro e w10 ⟨rfl, hb⟩
    have B10 := Box.mk (B9.out.trans (hb.mono B9.out.size))
    clear hb
    go_wp2_with fail
    go_ret
    exact ⟨rfl, B10.out⟩
  | ok segs => as_aux_lemma =>
    rw [hop] at hm RO
    dsimp only at hm RO
    obtain ⟨g, v, rfl, hl, _, _⟩ := hm
    have L8 := Box.mk hl
    have OKS := Box.mk (lopen_ok hop (by omega))
    clear hop hl
    go_wp2_with fail
    refine RO.out.mono ?_
    rintro e w9 ⟨hb, h, v2, rfl, hrl⟩
    have B9 := Box.mk (B8.out.trans (hb.mono B8.out.size))
    have F9 := Box.mk (F8.out.upd (Upd.of_below (S := []) hb) (by simp) (by simp) (by simp))
    have L9 := Box.mk (L8.out.keep (Upd.of_below hb)); have RL9 := Box.mk hrl
    clear hb RO F8 B8 L8 hrl
    go_wp2_with fail
    refine (ST.out p bb cb _ F9.out).mono ?_
    rintro e w10 ⟨rfl, rfl⟩
    go_wp2_with fail
    refine (lfixed_any _).mono ?_
    rintro e w10 ⟨rfl, hb⟩
    have B10 := Box.mk (B9.out.trans (hb.mono B9.out.size))
    have HO := Box.mk (holds_any g q p bb cb h q' p' bb' cb' 5 v v2 s ⟨segs, false⟩ w10 (L9.out.keep (Upd.of_below hb)) (RL9.out.keep (Upd.of_below hb)) OKS.out.1 (by omega) HD.out rfl OKS.out.2)
    clear hb L9 RL9
    go_wp2_with fail
    refine HO.out.mono ?_
    rintro e w11 ⟨rfl, hb⟩
    have B11 := Box.mk (B10.out.trans (hb.mono B10.out.size))
    clear hb
    go_wp2_with fail
    go_ret
    exact ⟨rfl, B11.out⟩
theorem own : ownKnob Tryz.prog.godebug = none := by kernel_rfl
theorem laidOut : laidOutB Tryz.prog = true := by kernel_rfl
set_option maxRecDepth 100000 in
theorem lifted (os : Os) (started : os.Started) (H : Type) (enc : TypeId × Value → H) :
    ReturnsInHanded {} Tryz.checked os 3 .any (Rows.logsReadsSpec.pre6 enc Tryz.prog Tryz.f3 Rows.logsReadsRow.domain false) (Rows.logsReadsSpec.post enc Tryz.prog Tryz.f3 false true false false) := by
  refine returnsInHanded_of_change (C := Tryz.checked) own started (by kernel_rfl) Tryz.func3
    (ChangeSpec.witness6 (enc := enc) (C := Tryz.checked) false ⟨#[], #[.string ⟨#[]⟩], []⟩ 8 (by kernel_rfl) (by kernel_rfl) (by kernel_rfl) (by kernel_rfl)) ?_
  intro W base args ds gs before hval0 hW hcnd _
  have hval : ∀ (j : Nat) t v, Tryz.f3.params[j]? = some t → args[j]? = some v → Value.okWide Tryz.prog W .any base t v := hval0
  have hW' := hW
  obtain ⟨p, q, hA0, hV, rfl, hfz, hnd⟩ := hW
  have hA : DataW.TrodAll enc Tryz.prog W 0 (fun _ => true) true Tryz.f3.params.toList args.toList ds p := hA0
  rw [Tryz.params3] at hA hval
  obtain ⟨v0, vs0, d0, ds0, p0, q0, hargs, rfl, rfl, h0, r0⟩ := trodAll_cons hA
  obtain ⟨rfl, rfl, rfl⟩ := trodAll_nil r0
  obtain rfl : args = #[v0] := by cases args; simp_all
  obtain ⟨rfl, rfl⟩ := trodVars_none hV
  obtain ⟨s0, rfl, rfl, rfl, ws0⟩ := open_string Tryz.underlying9 (hval 0 9 v0 rfl rfl) h0
  clear hA0 hval0
  refine (walk s0 ws0 W).mono fun e W' ⟨he, bel⟩ => ?_
  subst he
  exact ⟨_, rfl, _, _, _, [], _, [], hW', trodAll_mk1 (shut_bool Tryz.underlying4 _), (trodAll_cons_mk (shut_string Tryz.underlying9 ws0) trodAll_mk0), rfl, bel.frame _, fun h => by cases h⟩

theorem proved : Rows.LogsReadsSaid :=
  OpenClaim.holds_of_wide 3 Tryz.f3 rfl rfl rfl rfl rfl rfl rfl ⟨rfl, rfl, rfl, rfl, rfl⟩ rfl rfl rfl rfl rfl (by kernel_rfl) Tryz.func3 (by kernel_rfl)
    (of_decide_eq_true (by kernel_rfl)) (by unfold Func.isWrapper; first | (rw [if_pos (by decide +kernel)]; kernel_rfl) | (rw [if_neg (by decide +kernel)]; exact ⟨rfl, rfl⟩))
    (fun os started H enc _ => lifted os started H enc)
#print axioms proved
end Go.Proofs.YtjednaendedpdaaGreat.logsReads
