/- Whatever blocks, region and script come in, the call of PartWhole returns true and leaves its argument as it was. No condition. -/
import Derived.Test.YtaeomiedmjedgaaPartK
import Derived.Test.YtaeomiedmjedgaaMixU
import Derived.Deep.DeepCutAuto
import Derived.Deep.CutBlock
import Derived.IntWalk
import Derived.ProofKit
import Derived.OpenShut
import Derived.ShutString
import Derived.ChangeOld
namespace Go.Proofs.Ytaeomiedmjedgaa.partWhole
open Go Go.RowKit Go.ChangeShapes Go.WideShapes Go.ChangeAt
open Go.ChangeMaps (open_string shut_string)
set_option linter.unusedVariables false

/-- What stands between the calls: both flashes are in one state. -/
structure WhS (w : World) (x F B : Int) (sl : Value) (n p bb cb p2 bb2 cb2 q : Nat) (s : FS) (wx : World) : Prop where
  ok : s.Ok
  nn : s.n.length = n
  still : s.Still
  len : s.b.length = 512 * n
  fl : Fl 75 wx p bb cb s
  f2 : Fl 75 wx p2 bb2 cb2 s
  pa : Pa wx q p 0 n
  ag : ArgW w wx x F B sl
structure Ne7 (p bb cb p2 bb2 cb2 q : Nat) : Prop where
  a : q ≠ p ∧ q ≠ bb ∧ q ≠ cb ∧ q ≠ p2 ∧ q ≠ bb2 ∧ q ≠ cb2
  b : p2 ≠ p ∧ p2 ≠ bb ∧ p2 ≠ cb ∧ bb2 ≠ p ∧ bb2 ≠ bb ∧ bb2 ≠ cb ∧ cb2 ≠ p ∧ cb2 ≠ bb ∧ cb2 ≠ cb
set_option maxRecDepth 100000 in
set_option maxHeartbeats 8000000 in
theorem walk (x F B : Int) (sl : Value) (l : List OpR) (wx : (Lit.int .i64 x).wf = true) (wF : (Lit.int .i64 F).wf = true) (wB : (Lit.int .i64 B).wf = true) (w : World) (hsc : Script w sl l) :
    Calls Try.prog 5 #[.agg #[.int .i64 x, .int .i64 F, .int .i64 B, sl]] w fun e w' => e = .returned (.bool true) ∧ Below w.heap.size w w' := by
  have bx := bounds_i64 wx
  obtain ⟨n, hn, hn1, hn2⟩ : ∃ n : Nat, (n : Int) = max 1 (min x 20) ∧ 1 ≤ n ∧ n ≤ 20 := ⟨(max 1 (min x 20)).toNat, by omega, by omega, by omega⟩
  have HN := Box.mk hn
  clear wx wF wB hn
  have hlen : (List.replicate (512 * n) (255 : UInt8)).length = 512 * n := List.length_replicate ..
  obtain ⟨s0, hs0⟩ : ∃ s, s = FS.new (List.replicate (512 * n) 255) := ⟨_, rfl⟩
  have NW := Box.mk (fun w => new_yes n w (by unfold sizeN; rw [decide_eq_true_iff]; omega))
  unfold Made at NW
  rw [← hs0] at NW
  have ok0 : s0.Ok := by rw [hs0]; exact FS.new_ok (by rw [hlen]; unfold sizeB; rw [decide_eq_true_iff]; omega)
  have b0 : s0.b = List.replicate (512 * n) 255 := by rw [hs0]; rfl
  have n0 : s0.n.length = n := by rw [hs0]; unfold FS.new; simp only [List.length_replicate]; omega
  have st0 : s0.Still := by rw [hs0]; exact ⟨rfl, rfl⟩
  have bl0 : s0.b.length = 512 * n := by rw [b0, hlen]
  have hin : In n 0 n := ⟨by omega, by omega, by omega, by omega⟩
  have PY := Box.mk (fun p bb cb w h => pnew_yes p bb cb 0 n s0 w h (by rw [n0]; exact hin))
  have S0 := Box.mk (show s0.Ok ∧ s0.n.length = n ∧ s0.Still ∧ s0.b.length = 512 * n from ⟨ok0, n0, st0, bl0⟩)
  have HIN := Box.mk hin; have HNN := Box.mk (show 1 ≤ n ∧ n ≤ 20 from ⟨hn1, hn2⟩)
  have A0 := Box.mk (ArgW.start w x F B sl)
  clear hin bx hlen hs0 ok0 b0 n0 st0 bl0 hn1 hn2
  go_enter Try.func5, Try.ntmps5
  go_upto_region 1 with (fail)
  generalize w.alloc (.cells #[.int .i64 x, .int .i64 F, .int .i64 B, sl] 45) = w0 at A0 ⊢
  obtain ⟨a0, a1, a2, a3⟩ := A0.out.cells
  go_cut [3] (fun v wx => v = .int .i64 (n : Nat) ∧ w0 = wx)
  case first =>
    go_wp2_with fail
    all_goals
      go_meet
      exact ⟨int_congr (by have := HN.out; omega), rfl⟩
  case rest =>
    obtain ⟨rfl, rfl⟩ := hcut
    clear a0 a1 a2 a3
    go_wp2_with fail
    refine (NW.out _).mono ?_
    rintro e w1 ⟨p, bb, cb, rfl, hf, hp, hbb, hcb, b1⟩
    have hzw : w.heap.size < w0.heap.size := (Array.getElem?_eq_some_iff.1 A0.out.g).1
    have A1 := Box.mk (A0.out.upd (Upd.of_below (S := []) b1) (by simp)); have HF := Box.mk hf
    have WP : Box (w.heap.size < p ∧ w.heap.size < bb ∧ w.heap.size < cb) := ⟨by omega⟩
    clear hf hp hbb hcb b1 hzw A0
    go_wp2_with fail
    refine (NW.out _).mono ?_
    rintro e w2 ⟨p2, bb2, cb2, rfl, hf2, hp2, hbb2, hcb2, b2⟩
    have hl := HF.out.lt
    have A2 := Box.mk (A1.out.upd (Upd.of_below (S := []) b2) (by simp)); have HF2 := Box.mk hf2
    have HFa := Box.mk (HF.out.upd (Upd.of_below b2) (S := []) (by simp) (by simp) (by simp))
    have WQ : Box (w.heap.size < p2 ∧ w.heap.size < bb2 ∧ w.heap.size < cb2) := ⟨by have := WP.out; omega⟩
    have NB : Box (p2 ≠ p ∧ p2 ≠ bb ∧ p2 ≠ cb ∧ bb2 ≠ p ∧ bb2 ≠ bb ∧ bb2 ≠ cb ∧ cb2 ≠ p ∧ cb2 ≠ bb ∧ cb2 ≠ cb) := ⟨by omega⟩
    clear hf2 hp2 hbb2 hcb2 b2 hl HF A1
    go_wp2_with fail
    refine (PY.out p bb cb _ HFa.out).mono ?_
    rintro e w3 ⟨q, rfl, pa, hq, b3⟩
    have hl := HFa.out.lt; have hl2 := HF2.out.lt
    have NQ : Box (Ne7 p bb cb p2 bb2 cb2 q) := ⟨⟨by omega, NB.out⟩⟩
    have ST0 := Box.mk (show WhS w x F B sl n p bb cb p2 bb2 cb2 q s0 w3 from ⟨S0.out.1, S0.out.2.1, S0.out.2.2.1, S0.out.2.2.2, HFa.out.upd (Upd.of_below b3) (S := []) (by simp) (by simp) (by simp), HF2.out.upd (Upd.of_below b3) (S := []) (by simp) (by simp) (by simp), pa, A2.out.upd (Upd.of_below (S := []) b3) (by simp)⟩)
    clear pa hq b3 hl hl2 HFa HF2 A2 NB NW PY S0
    obtain ⟨ao, cap, rfl, hmax, hops⟩ := hsc
    have hlen : l.length ≤ 9223372036854775807 := by unfold maxLen at hmax; omega
    have hops := Box.mk hops
    obtain ⟨m, hm⟩ : ∃ m, m = 512 * n := ⟨_, rfl⟩
    have HM := Box.mk hm
    clear hm
    go_wp2_with fail
    go_loopw [9] (fun i wr => ∃ (j : Nat) (s : FS), j ≤ l.length ∧ i = .int .i64 j ∧ WhS w x F B (.slice ao l.length cap) n p bb cb p2 bb2 cb2 q s wr) (fun i _ => l.length - (intOf i).toNat)
    case atStart => exact ⟨0, _, by omega, rfl, ST0.out⟩
    case round =>
      clear ST0
      obtain ⟨j, s, hj, rfl, st⟩ := hrel
      have ST := Box.mk st
      obtain ⟨e0, e1, e2, e3⟩ := st.ag.cells
      by_cases hlt : j < l.length
      · have hltI : (j : Int) < (l.length : Int) := by omega
        by_cases h100 : j < 100
        · have h100I : (j : Int) < 100 := by omega
          obtain ⟨o, ho⟩ : ∃ o, l[j]? = some o := ⟨_, List.getElem?_eq_getElem hlt⟩
          obtain ⟨a, rfl, HO⟩ := hops.out j o ho
          have hox : OpAt wr (a.add (j * 5)) o := HO.below st.ag.b HO.lt
          obtain ⟨q0, q1, q2, q3, q4⟩ := hox.flat
          obtain ⟨wk, hwk⟩ : ∃ wk, wk = wr.alloc (.cells #[.int .i64 o.k, .int .i64 o.a, .int .i64 o.n, .string o.s, .int .u8 (o.m.toNat : Int)] 47) := ⟨_, rfl⟩
          have uk : Upd [] wr wk := by rw [hwk]; exact (Upd.refl [] wr).alloc _
          have SK := Box.mk (show WhS w x F B (.slice (some a) l.length cap) n p bb cb p2 bb2 cb2 q s wk from ⟨st.ok, st.nn, st.still, st.len, st.fl.upd uk (by simp) (by simp) (by simp), st.f2.upd uk (by simp) (by simp) (by simp), st.pa.upd uk (by simp), st.ag.upd uk (by simp)⟩)
          have OX := Box.mk HO.ok
          have rk : wk.heap[wr.heap.size]? = some (.cells #[.int .i64 o.k, .int .i64 o.a, .int .i64 o.n, .string o.s, .int .u8 (o.m.toNat : Int)] 47 (0, 0)) := by rw [hwk]; exact heap_alloc_new _ _
          have c0 : wk.cell? ⟨wr.heap.size, 0, none⟩ = some (.int .i64 o.k) := (cell_of_row _ _ _ _ _ _ rk).trans rfl
          have c1 : wk.cell? ⟨wr.heap.size, 1, none⟩ = some (.int .i64 o.a) := (cell_of_row _ _ _ _ _ _ rk).trans rfl
          have c3 : wk.cell? ⟨wr.heap.size, 3, none⟩ = some (.string o.s) := (cell_of_row _ _ _ _ _ _ rk).trans rfl
          have RK := Box.mk rk; have HLT := Box.mk hlt
          have hlp := st.fl.lt; have hlp2 := st.f2.lt
          have WR : Box (wr.heap.size ≠ p ∧ wr.heap.size ≠ bb ∧ wr.heap.size ≠ cb ∧ wr.heap.size ≠ p2 ∧ wr.heap.size ≠ bb2 ∧ wr.heap.size ≠ cb2) := ⟨by omega⟩
          clear st hox HO uk rk ST hlp hlp2
          go_upto_region 13 with (fail)
          rw [← hwk]
          clear hwk q0 q1 q2 q3 q4 e0 e1 e2 e3
          go_upto_block 2 with (fail)
          go_cut [] (fun wx => ∃ s', WhS w x F B (.slice (some a) l.length cap) n p bb cb p2 bb2 cb2 q s' wx)
          case first =>
            have HE := Box.mk (perase_whole SK.out.still SK.out.nn o.a)
            have PW := Box.mk (fun wx hf hp => pwrite_any q p bb cb 0 n s o.a o.s wx hf SK.out.ok hp (by rw [SK.out.nn]; exact HIN.out) NQ.out.a.2.1 NQ.out.a.1 OX.out.a OX.out.s)
            have PP := Box.mk (fun wx hf => program_any p2 bb2 cb2 s o.a o.s wx hf SK.out.ok OX.out.a OX.out.s)
            have PE := Box.mk (fun wx hf hp => perase_any q p bb cb 0 n s o.a wx hf SK.out.ok hp (by rw [SK.out.nn]; exact HIN.out))
            have EE := Box.mk (fun wx hf => erase_any p2 bb2 cb2 s o.a wx hf SK.out.ok)
            have hmw : IntKind.i64.wrap (512 * (n : Int)) = (m : Int) := by rw [IntKind.wrap_i64]; have := HM.out; have := HNN.out; omega
            by_cases k1 : o.k = 1
            · have k1b : (o.k == 1) = true := by rw [beq_iff_eq]; exact k1
              clear k1
              by_cases g1 : o.a < 0
              · have f1 : decide (o.a < 0) = true := by simpa using g1
                clear g1 HE PW PP PE EE hmw
                go_wp2_with fail
                exact ⟨⟨j + 1, s, by have := HLT.out; omega, by go_num, SK.out⟩, by have := HLT.out; simp [intOf]; omega⟩
              · have f1 : decide (o.a < 0) = false := by simpa using g1
                by_cases g2 : (m : Int) < o.a
                · have f2 : decide ((m : Int) < o.a) = true := by simpa using g2
                  clear g1 g2 HE PW PP PE EE
                  go_wp2_with fail
                  exact ⟨⟨j + 1, s, by have := HLT.out; omega, by go_num, SK.out⟩, by have := HLT.out; simp [intOf]; omega⟩
                · have f2 : decide ((m : Int) < o.a) = false := by simpa using g2
                  have hms := OX.out.s
                  unfold maxLen at hms
                  have f6 : o.a.tmod 64 = o.a % 64 := Int.tmod_eq_emod_of_nonneg (by omega)
                  have f7 : IntKind.i64.wrap (o.a % 64) = o.a % 64 := by rw [IntKind.wrap_i64]; omega
                  obtain ⟨u, hu⟩ : ∃ u, u = IntKind.i64.wrap (o.a % 64 + (o.s.size : Int)) := ⟨_, rfl⟩
                  have f8 : IntKind.i64.wrap (o.a % 64 + (o.s.size : Int)) = u := hu.symm
                  have hsl : o.s.data.toList.length = o.s.size := by simp
                  have hbn := HNN.out
                  by_cases g3 : 64 < u
                  · have f3 : decide (64 < u) = true := by simpa using g3
                    clear g1 g2 g3 HE PW PP PE EE hms hu hsl hbn
                    go_wp2_with fail
                    exact ⟨⟨j + 1, s, by have := HLT.out; omega, by go_num, SK.out⟩, by have := HLT.out; simp [intOf]; omega⟩
                  · have f3 : decide (64 < u) = false := by simpa using g3
                    obtain ⟨h1, h2⟩ := pwrite_whole SK.out.still SK.out.len o.a o.s.data.toList (by omega) (by rw [hsl]; rw [IntKind.wrap_i64] at hu; omega)
                    rw [h1] at PW
                    have OK2 := Box.mk (FS.program_ok SK.out.ok o.a o.s.data.toList); have N2 := Box.mk ((FS.program_n s o.a o.s.data.toList).trans SK.out.nn); have S2 := Box.mk (still_program SK.out.still o.a o.s.data.toList); have L2 := Box.mk ((program_len s o.a o.s.data.toList).trans SK.out.len)
                    obtain ⟨u1, hu1⟩ : ∃ u, u = (s.pwrite 0 n o.a o.s.data.toList).2 := ⟨_, rfl⟩
                    rw [← hu1] at h2 PW
                    generalize s.program o.a o.s.data.toList = r at PW PP h2 OK2 N2 S2 L2
                    obtain ⟨s2, u2⟩ := r
                    dsimp only at PW PP h2 OK2 N2 S2 L2
                    have hbb : ((u1 == 0) != (u2 == 0)) = false := by rw [h2]; simp
                    clear hu1 h1 HE PE EE hms hu hsl hbn g1 g2 g3
                    go_upto_region 16 with (fail)
                    have NK : wr.heap.size ∉ [p, bb, cb, p2, bb2, cb2] := by have := WR.out; simp; omega
                    have NQS : q ∉ [p, bb, cb, p2, bb2, cb2] := by have := NQ.out.a; simp; omega
                    have NB1 := NQ.out.b
                    have LT1 := SK.out.fl.lt; have LT2 := SK.out.f2.lt
                    have LTS : ∀ k ∈ [p, bb, cb, p2, bb2, cb2], k < wk.heap.size := by intro k hk; simp at hk; omega
                    have FD1 := SK.out.fl.upd (Upd.refl [] wk).drew (by simp) (by simp) (by simp); have FD2 := SK.out.f2.upd (Upd.refl [] wk).drew (by simp) (by simp) (by simp); have PD := SK.out.pa.upd (Upd.refl [] wk).drew (by simp); have RD := ((Upd.refl [] wk).drew.block wr.heap.size (Array.getElem?_eq_some_iff.1 RK.out).1 (by simp)).trans RK.out
                    replace NB1 := Box.mk NB1; replace LTS := Box.mk LTS; replace NK := Box.mk NK; replace NQS := Box.mk NQS; replace FD1 := Box.mk FD1; replace FD2 := Box.mk FD2; replace PD := Box.mk PD; replace RD := Box.mk RD
                    clear LT1 LT2 c0 c1 c3
                    refine wp_region_mixS [p, bb, cb, p2, bb2, cb2] (fun w => Fl 75 w p bb cb s ∧ Fl 75 w p2 bb2 cb2 s) (fun w w' hg h => ⟨h.1.upd hg.upd (by simp) (by simp) (by simp), h.2.upd hg.upd (by simp) (by simp) (by simp)⟩) (⟨FD1.out, FD2.out⟩) (LTS.out) 14 [.flo, .flo, .flo, .flo, .flo, .cha, .flo, .flo, .flo, .flo, .flo, .flo, .cha, .flo] (by kernel_rfl) (by kernel_rfl) rfl ?_
                    simp only [List.take, List.zip, List.zipWith]
                    try go_frame
                    refine gm_move (.tmp 8) (.inl rfl) (.pointer (some ⟨q, 0, none⟩)) rfl ?_
                    try go_frame
                    refine gm_flo (.pointer (some ⟨wr.heap.size, 1, none⟩)) (fun w1 hw1 => ?_) ?_
                    case refine_1 =>
                      go_simp
                    try go_frame
                    refine gm_flo (.int .i64 o.a) (fun w1 hw1 => ?_) ?_
                    case refine_1 =>
                      have e1 : w1.cell? ⟨wr.heap.size, 1, none⟩ = some (.int .i64 o.a) := (cell_of_row _ _ _ _ _ _ (hw1.at (NK.out) RD.out)).trans rfl
                      go_simp
                    try go_frame
                    refine gm_flo (.pointer (some ⟨wr.heap.size, 3, none⟩)) (fun w1 hw1 => ?_) ?_
                    case refine_1 =>
                      go_simp
                    try go_frame
                    refine gm_flo (.string o.s) (fun w1 hw1 => ?_) ?_
                    case refine_1 =>
                      have e1 : w1.cell? ⟨wr.heap.size, 3, none⟩ = some (.string o.s) := (cell_of_row _ _ _ _ _ _ (hw1.at (NK.out) RD.out)).trans rfl
                      go_simp
                    try go_frame
                    refine gm_callS [.pointer (some ⟨q, 0, none⟩), .int .i64 o.a, .string o.s] (by kernel_rfl) rfl rfl (fun w1 hw1 hF1 => (PW.out _ hF1.1 (PD.out.upd hw1.upd NQS.out)).mono ?_)
                    rintro e w2 ⟨rfl, hf, hu⟩
                    refine ⟨_, rfl, GrS.of_upd hu (by simp), (fun w => Fl 75 w p bb cb s2 ∧ Fl 75 w p2 bb2 cb2 s), (fun w w' hg h => ⟨h.1.upd hg.upd (by simp) (by simp) (by simp), h.2.upd hg.upd (by simp) (by simp) (by simp)⟩), (⟨hf, hF1.2.upd hu (by have := NB1.out; simp; omega) (by have := NB1.out; simp; omega) (by have := NB1.out; simp; omega)⟩), ?_⟩
                    clear hw1 hF1 hf hu w1 w2
                    try go_frame
                    refine gm_flo (.bool (u1 == 0)) (fun w1 hw1 => ?_) ?_
                    case refine_1 =>
                      go_simp
                    try go_frame
                    refine gm_move (.tmp 6) (.inl rfl) (.pointer (some ⟨p2, 0, none⟩)) rfl ?_
                    try go_frame
                    refine gm_flo (.pointer (some ⟨wr.heap.size, 1, none⟩)) (fun w1 hw1 => ?_) ?_
                    case refine_1 =>
                      go_simp
                    try go_frame
                    refine gm_flo (.int .i64 o.a) (fun w1 hw1 => ?_) ?_
                    case refine_1 =>
                      have e1 : w1.cell? ⟨wr.heap.size, 1, none⟩ = some (.int .i64 o.a) := (cell_of_row _ _ _ _ _ _ (hw1.at (NK.out) RD.out)).trans rfl
                      go_simp
                    try go_frame
                    refine gm_flo (.pointer (some ⟨wr.heap.size, 3, none⟩)) (fun w1 hw1 => ?_) ?_
                    case refine_1 =>
                      go_simp
                    try go_frame
                    refine gm_flo (.string o.s) (fun w1 hw1 => ?_) ?_
                    case refine_1 =>
                      have e1 : w1.cell? ⟨wr.heap.size, 3, none⟩ = some (.string o.s) := (cell_of_row _ _ _ _ _ _ (hw1.at (NK.out) RD.out)).trans rfl
                      go_simp
                    try go_frame
                    refine gm_callS [.pointer (some ⟨p2, 0, none⟩), .int .i64 o.a, .string o.s] (by kernel_rfl) rfl rfl (fun w1 hw1 hF1 => (PP.out _ hF1.2).mono ?_)
                    rintro e w2 ⟨rfl, hf, hu⟩
                    refine ⟨_, rfl, GrS.of_upd hu (by simp), (fun w => Fl 75 w p bb cb s2 ∧ Fl 75 w p2 bb2 cb2 s2), (fun w w' hg h => ⟨h.1.upd hg.upd (by simp) (by simp) (by simp), h.2.upd hg.upd (by simp) (by simp) (by simp)⟩), (⟨hF1.1.upd hu (by have := NB1.out; simp; omega) (by have := NB1.out; simp; omega) (by have := NB1.out; simp; omega), hf⟩), ?_⟩
                    clear hw1 hF1 hf hu w1 w2
                    try go_frame
                    refine gm_flo (.bool (u2 == 0)) (fun w1 hw1 => ?_) ?_
                    case refine_1 =>
                      go_simp
                    try go_frame
                    refine gm_nil ?_
                    intro w9 hw9 hF9
                    simp only [List.drop]
                    try go_frame
                    have PA9 := Box.mk (PD.out.upd hw9.upd NQS.out); have AG9 := Box.mk ((SK.out.ag.upd (Upd.refl [] wk).drew (by simp)).upd hw9.upd (by have := WP.out; have := WQ.out; intro i hi; simp at hi; omega)); have H9 := Box.mk hF9
                    clear hw9 hF9
                    go_wp2_with fail
                    go_meet
                    exact ⟨s2, OK2.out, N2.out, S2.out, L2.out, H9.out.1, H9.out.2, PA9.out, AG9.out⟩
            · have k1b : (o.k == 1) = false := by rw [beq_eq_false_iff_ne]; exact k1
              by_cases k2 : o.k = 2
              · have k2b : (o.k == 2) = true := by rw [beq_iff_eq]; exact k2
                clear k1 k2
                obtain ⟨h1, h2⟩ := HE.out
                rw [h1] at PE
                have OK2 := Box.mk (FS.erase_ok SK.out.ok o.a); have N2 := Box.mk ((FS.erase_n s o.a).trans SK.out.nn); have S2 := Box.mk (still_erase' SK.out.still o.a); have L2 := Box.mk ((erase_len s o.a).trans SK.out.len)
                obtain ⟨u1, hu1⟩ : ∃ u, u = (s.perase 0 n o.a).2 := ⟨_, rfl⟩
                rw [← hu1] at h2 PE
                generalize s.erase o.a = r at PE EE h2 OK2 N2 S2 L2
                obtain ⟨s2, u2⟩ := r
                dsimp only at PE EE h2 OK2 N2 S2 L2
                have hbb : ((u1 == 0) != (u2 == 0)) = false := by rw [h2]; simp
                clear hu1 h1 HE PW PP hmw
                go_upto_region 19 with (fail)
                have NK : wr.heap.size ∉ [p, bb, cb, p2, bb2, cb2] := by have := WR.out; simp; omega
                have NQS : q ∉ [p, bb, cb, p2, bb2, cb2] := by have := NQ.out.a; simp; omega
                have NB1 := NQ.out.b
                have LT1 := SK.out.fl.lt; have LT2 := SK.out.f2.lt
                have LTS : ∀ k ∈ [p, bb, cb, p2, bb2, cb2], k < wk.heap.size := by intro k hk; simp at hk; omega
                have FD1 := SK.out.fl.upd (Upd.refl [] wk).drew (by simp) (by simp) (by simp); have FD2 := SK.out.f2.upd (Upd.refl [] wk).drew (by simp) (by simp) (by simp); have PD := SK.out.pa.upd (Upd.refl [] wk).drew (by simp); have RD := ((Upd.refl [] wk).drew.block wr.heap.size (Array.getElem?_eq_some_iff.1 RK.out).1 (by simp)).trans RK.out
                replace NB1 := Box.mk NB1; replace LTS := Box.mk LTS; replace NK := Box.mk NK; replace NQS := Box.mk NQS; replace FD1 := Box.mk FD1; replace FD2 := Box.mk FD2; replace PD := Box.mk PD; replace RD := Box.mk RD
                clear LT1 LT2 c0 c1 c3
                refine wp_region_mixS [p, bb, cb, p2, bb2, cb2] (fun w => Fl 75 w p bb cb s ∧ Fl 75 w p2 bb2 cb2 s) (fun w w' hg h => ⟨h.1.upd hg.upd (by simp) (by simp) (by simp), h.2.upd hg.upd (by simp) (by simp) (by simp)⟩) (⟨FD1.out, FD2.out⟩) (LTS.out) 10 [.flo, .flo, .flo, .cha, .flo, .flo, .flo, .flo, .cha, .flo] (by kernel_rfl) (by kernel_rfl) rfl ?_
                simp only [List.take, List.zip, List.zipWith]
                try go_frame
                refine gm_move (.tmp 8) (.inl rfl) (.pointer (some ⟨q, 0, none⟩)) rfl ?_
                try go_frame
                refine gm_flo (.pointer (some ⟨wr.heap.size, 1, none⟩)) (fun w1 hw1 => ?_) ?_
                case refine_1 =>
                  go_simp
                try go_frame
                refine gm_flo (.int .i64 o.a) (fun w1 hw1 => ?_) ?_
                case refine_1 =>
                  have e1 : w1.cell? ⟨wr.heap.size, 1, none⟩ = some (.int .i64 o.a) := (cell_of_row _ _ _ _ _ _ (hw1.at (NK.out) RD.out)).trans rfl
                  go_simp
                try go_frame
                refine gm_callS [.pointer (some ⟨q, 0, none⟩), .int .i64 o.a] (by kernel_rfl) rfl rfl (fun w1 hw1 hF1 => (PE.out _ hF1.1 (PD.out.upd hw1.upd NQS.out)).mono ?_)
                rintro e w2 ⟨rfl, hf, hu⟩
                refine ⟨_, rfl, GrS.of_upd hu (by simp), (fun w => Fl 75 w p bb cb s2 ∧ Fl 75 w p2 bb2 cb2 s), (fun w w' hg h => ⟨h.1.upd hg.upd (by simp) (by simp) (by simp), h.2.upd hg.upd (by simp) (by simp) (by simp)⟩), (⟨hf, hF1.2.upd hu (by have := NB1.out; simp; omega) (by have := NB1.out; simp; omega) (by have := NB1.out; simp; omega)⟩), ?_⟩
                clear hw1 hF1 hf hu w1 w2
                try go_frame
                refine gm_flo (.bool (u1 == 0)) (fun w1 hw1 => ?_) ?_
                case refine_1 =>
                  go_simp
                try go_frame
                refine gm_move (.tmp 6) (.inl rfl) (.pointer (some ⟨p2, 0, none⟩)) rfl ?_
                try go_frame
                refine gm_flo (.pointer (some ⟨wr.heap.size, 1, none⟩)) (fun w1 hw1 => ?_) ?_
                case refine_1 =>
                  go_simp
                try go_frame
                refine gm_flo (.int .i64 o.a) (fun w1 hw1 => ?_) ?_
                case refine_1 =>
                  have e1 : w1.cell? ⟨wr.heap.size, 1, none⟩ = some (.int .i64 o.a) := (cell_of_row _ _ _ _ _ _ (hw1.at (NK.out) RD.out)).trans rfl
                  go_simp
                try go_frame
                refine gm_callS [.pointer (some ⟨p2, 0, none⟩), .int .i64 o.a] (by kernel_rfl) rfl rfl (fun w1 hw1 hF1 => (EE.out _ hF1.2).mono ?_)
                rintro e w2 ⟨rfl, hf, hu⟩
                refine ⟨_, rfl, GrS.of_upd hu (by simp), (fun w => Fl 75 w p bb cb s2 ∧ Fl 75 w p2 bb2 cb2 s2), (fun w w' hg h => ⟨h.1.upd hg.upd (by simp) (by simp) (by simp), h.2.upd hg.upd (by simp) (by simp) (by simp)⟩), (⟨hF1.1.upd hu (by have := NB1.out; simp; omega) (by have := NB1.out; simp; omega) (by have := NB1.out; simp; omega), hf⟩), ?_⟩
                clear hw1 hF1 hf hu w1 w2
                try go_frame
                refine gm_flo (.bool (u2 == 0)) (fun w1 hw1 => ?_) ?_
                case refine_1 =>
                  go_simp
                try go_frame
                refine gm_nil ?_
                intro w9 hw9 hF9
                simp only [List.drop]
                try go_frame
                have PA9 := Box.mk (PD.out.upd hw9.upd NQS.out); have AG9 := Box.mk ((SK.out.ag.upd (Upd.refl [] wk).drew (by simp)).upd hw9.upd (by have := WP.out; have := WQ.out; intro i hi; simp at hi; omega)); have H9 := Box.mk hF9
                clear hw9 hF9
                go_wp2_with fail
                go_meet
                exact ⟨s2, OK2.out, N2.out, S2.out, L2.out, H9.out.1, H9.out.2, PA9.out, AG9.out⟩
              · have k2b : (o.k == 2) = false := by rw [beq_eq_false_iff_ne]; exact k2
                clear k1 k2 HE PW PP PE EE hmw
                go_wp2_with fail
                go_meet
                exact ⟨s, SK.out⟩
          case rest =>
            clear SK OX c0 c1 c3 RK WR
            obtain ⟨s', st'⟩ := hcut
            have ST' := Box.mk st'
            have RD := Box.mk (pread_any q p bb cb 0 n s' (0 : Nat) (512 * n : Nat) wc st'.fl st'.ok st'.pa (by rw [st'.nn]; exact HIN.out) (by omega) (by have := HNN.out; omega))
            rw [read_whole st'.still st'.len, ← HM.out] at RD
            obtain ⟨S, hS⟩ : ∃ S : ByteArray, S = ⟨s'.b.toArray⟩ := ⟨_, rfl⟩
            have IM := Box.mk (image_any p2 bb2 cb2 s' wc st'.f2)
            have T1 := Box.mk (steps_any p bb cb s' wc st'.fl); have T2 := Box.mk (steps_any p2 bb2 cb2 s' wc st'.f2)
            dsimp only at RD
            rw [← hS] at RD IM
            generalize s'.steps = T at T1 T2
            have hmw : IntKind.i64.wrap (512 * (n : Int)) = (m : Int) := by rw [IntKind.wrap_i64]; have := HM.out; have := HNN.out; omega
            have hq1 : (S.toList != S.toList) = false := by simp
            have hq2 : (T != T) = false := by simp
            clear st' hS
            go_wp2_with fail
            refine RD.out.mono ?_
            rintro e w6 ⟨rfl, rfl⟩
            go_wp2_with fail
            refine IM.out.mono ?_
            rintro e w6 ⟨rfl, rfl⟩
            go_wp2_with fail
            refine T1.out.mono ?_
            rintro e w6 ⟨rfl, rfl⟩
            go_wp2_with fail
            refine T2.out.mono ?_
            rintro e w6 ⟨rfl, rfl⟩
            go_wp2_with fail
            exact ⟨⟨j + 1, s', by omega, by go_num, ST'.out⟩, by simp [intOf]; omega⟩
        · have h100I : ¬ (j : Int) < 100 := by omega
          go_wp2_with fail
          refine (pfixed_any _).mono ?_
          rintro e w7 ⟨rfl, b7⟩
          have B7 := Box.mk (ST.out.ag.b.trans (b7.mono ST.out.ag.b.size))
          clear b7
          go_wp2_with fail
          go_ret
          exact ⟨rfl, B7.out⟩
      · obtain rfl : j = l.length := by omega
        go_wp2_with fail
        refine (pfixed_any _).mono ?_
        rintro e w7 ⟨rfl, b7⟩
        have B7 := Box.mk (ST.out.ag.b.trans (b7.mono ST.out.ag.b.size))
        clear b7
        go_wp2_with fail
        go_ret
        exact ⟨rfl, B7.out⟩
theorem own : ownKnob Try.prog.godebug = none := by kernel_rfl
theorem laidOut : laidOutB Try.prog = true := by kernel_rfl
set_option maxRecDepth 100000 in
theorem lifted (os : Os) (started : os.Started) (H : Type) (enc : TypeId × Value → H) :
    ReturnsInHanded {} Try.checked os 5 .any (Rows.partWholeSpec.pre6 enc Try.prog Try.f5 Rows.partWholeRow.domain false) (Rows.partWholeSpec.post enc Try.prog Try.f5 false true false false) := by
  refine returnsInHanded_of_change (C := Try.checked) own started (by kernel_rfl) Try.func5
    (ChangeSpec.witness6 (enc := enc) (C := Try.checked) false ⟨#[], #[.agg #[.int .i64 0, .int .i64 0, .int .i64 0, .slice none 0 0]], []⟩ 8 (by kernel_rfl) (by kernel_rfl) (by kernel_rfl) (by kernel_rfl)) ?_
  intro W base args ds gs before hval0 hW hcnd _
  have hval : ∀ (j : Nat) t v, Try.f5.params[j]? = some t → args[j]? = some v → Value.okWide Try.prog W .any base t v := hval0
  have hW' := hW
  obtain ⟨p, q, hA0, hV, rfl, hfz, hnd⟩ := hW
  have hA : DataW.TrodAll enc Try.prog W 0 (fun _ => true) true Try.f5.params.toList args.toList ds p := hA0
  rw [Try.params5] at hA hval
  obtain ⟨v0, vs0, d0, ds0, p0, q0, hargs, rfl, rfl, h0, r0⟩ := trodAll_cons hA
  obtain ⟨rfl, rfl, rfl⟩ := trodAll_nil r0
  obtain rfl : args = #[v0] := by cases args; simp_all
  obtain ⟨rfl, rfl⟩ := trodVars_none hV
  obtain ⟨x0, F0, B0, sl0, l0, rfl, wx0, wF0, wB0, hsc0⟩ := open_pw (hval 0 45 v0 rfl rfl) h0
  clear hA0 hval0
  refine (walk x0 F0 B0 sl0 l0 wx0 wF0 wB0 W hsc0).mono fun e W' ⟨he, bel⟩ => ?_
  subst he
  exact ⟨_, rfl, _, _, _, [], _, [], hW', trodAll_mk1 (shut_bool Try.underlying4 _), (trodAll_cons_mk (Below.trod laidOut (by kernel_rfl) (of_decide_eq_true (by kernel_rfl)) h0 bel (by obtain ⟨f, hf⟩ := h0; exact DataW.trod_lt _ _ _ _ hf)) trodAll_mk0), rfl, bel.frame _, fun h => by cases h⟩

theorem proved : Rows.PartWholeSaid :=
  OpenClaim.holds_of_wide 5 Try.f5 rfl rfl rfl rfl rfl rfl rfl ⟨rfl, rfl, rfl, rfl, rfl⟩ rfl rfl rfl rfl rfl (by kernel_rfl) Try.func5 (by kernel_rfl)
    (of_decide_eq_true (by kernel_rfl)) (by unfold Func.isWrapper; first | (rw [if_pos (by decide +kernel)]; kernel_rfl) | (rw [if_neg (by decide +kernel)]; exact ⟨rfl, rfl⟩))
    (fun os started H enc _ => lifted os started H enc)
#print axioms proved
end Go.Proofs.Ytaeomiedmjedgaa.partWhole
