/- Whatever blocks, region and script come in, the call of PartDoes returns true and leaves its argument as it was. No condition. -/
import Derived.Test.YtaeomiedmjedgaaPartRefD
import Derived.Test.YtaeomiedmjedgaaPartJ
import Derived.Test.YtaeomiedmjedgaaFlashRefD
import Derived.Deep.DeepCutAuto
import Derived.Deep.CutBlock
import Derived.IntWalk
import Derived.ProofKit
import Derived.OpenShut
import Derived.ShutString
import Derived.ChangeOld
namespace Go.Proofs.Ytaeomiedmjedgaa.partDoes
open Go Go.RowKit Go.ChangeShapes Go.WideShapes Go.ChangeAt
open Go.ChangeMaps (open_string shut_string)
set_option linter.unusedVariables false

/-- A call of the script, in a block of its own. -/
def ob (o : OpR) : Obj := .cells #[.int .i64 o.k, .int .i64 o.a, .int .i64 o.n, .string o.s, .int .u8 (o.m.toNat : Int)] 47
theorem ob_cells {w : World} {k : Nat} {o : OpR} (h : w.heap[k]? = some (ob o)) : w.cell? ⟨k, 0, none⟩ = some (.int .i64 o.k) ∧ w.cell? ⟨k, 1, none⟩ = some (.int .i64 o.a) ∧ w.cell? ⟨k, 2, none⟩ = some (.int .i64 o.n) ∧ w.cell? ⟨k, 3, none⟩ = some (.string o.s) ∧ w.cell? ⟨k, 4, none⟩ = some (.int .u8 (o.m.toNat : Int)) := by
  unfold ob at h
  refine ⟨?_, ?_, ?_, ?_, ?_⟩ <;> (rw [cell_of_row _ _ _ _ _ _ h]; rfl)
theorem keep_ob {w w1 : World} {K : Nat} {o : OpR} {S : List Nat} (h : w.heap[K]? = some (ob o)) (hu : Upd S w w1) (hK : K ∉ S) : w1.heap[K]? = some (ob o) :=
  (hu.block _ (Array.getElem?_eq_some_iff.1 h).1 hK).trans h
theorem back_ok {s : FS} (h : s.Ok) : s.back.Ok := ⟨by simp [FS.back], h.keep, h.len, h.few⟩
/-- What stands at the head of a round: both in one state, the argument's block. -/
structure RdS (w wr : World) (x F B : Int) (sl : Value) (n q p bb cb q' p' bb' cb' : Nat) (s : FS) : Prop where
  ok : s.Ok
  nn : s.n.length = n
  pd : PdS wr F B q p bb cb q' p' bb' cb' s s
  ag : ArgW w wr x F B sl
  ap : Apar w.heap.size q p bb cb q' p' bb' cb'
theorem RdS.of {w wr w1 w2 : World} {x F B : Int} {sl : Value} {n q p bb cb q' p' bb' cb' : Nat} {s s1 : FS} (h : RdS w wr x F B sl n q p bb cb q' p' bb' cb' s) (ok : s1.Ok) (nn : s1.n.length = s.n.length)
    (f1 : Fl 75 w1 p bb cb s1) (u1 : Upd [p, bb, cb] wr w1) (f2 : Fl 64 w2 p' bb' cb' s1) (u2 : Upd [p', bb', cb'] w1 w2) : RdS w w2 x F B sl n q p bb cb q' p' bb' cb' s1 := by
  exact ⟨ok, nn.trans h.nn, (h.pd.one h.ap f1 u1).two h.ap f2 u2, (h.ag.upd u1 h.ap.g1).upd u2 h.ap.g2, h.ap⟩
theorem RdS.same {w wr w1 : World} {x F B : Int} {sl : Value} {n q p bb cb q' p' bb' cb' : Nat} {s : FS} (h : RdS w wr x F B sl n q p bb cb q' p' bb' cb' s) (u : Upd [] wr w1) : RdS w w1 x F B sl n q p bb cb q' p' bb' cb' s :=
  ⟨h.ok, h.nn, h.pd.same u, h.ag.upd u (by simp), h.ap⟩
/-- What a call of the script leaves. -/
def Aft (w : World) (x F B : Int) (sl : Value) (n q' p' bb' cb' K : Nat) (o : OpR) (f pq a b t1 t2 x1 x2 : Value) (wx : World) : Prop :=
  ∃ (q p bb cb : Nat) (s : FS) (e : Int) (t : ByteArray) (y : Bool), f = .pointer (some ⟨p, 0, none⟩) ∧ pq = .pointer (some ⟨q, 0, none⟩) ∧ a = .int .i64 e ∧ b = .int .i64 e ∧ t1 = .string t ∧ t2 = .string t ∧ x1 = .bool y ∧ x2 = .bool y ∧ RdS w wx x F B sl n q p bb cb q' p' bb' cb' s ∧ wx.heap[K]? = some (ob o)
set_option maxRecDepth 100000 in
set_option maxHeartbeats 8000000 in
theorem walk (x F B : Int) (sl : Value) (l : List OpR) (wx : (Lit.int .i64 x).wf = true) (wF : (Lit.int .i64 F).wf = true) (wB : (Lit.int .i64 B).wf = true) (w : World) (hsc : Script w sl l) :
    Calls Try.prog 7 #[.agg #[.int .i64 x, .int .i64 F, .int .i64 B, sl]] w fun e w' => e = .returned (.bool true) ∧ Below w.heap.size w w' := by
  have bx := bounds_i64 wx; have bF := bounds_i64 wF; have bB := bounds_i64 wB
  obtain ⟨n, hn, hn1, hn2⟩ : ∃ n : Nat, (n : Int) = max 1 (min x 20) ∧ 1 ≤ n ∧ n ≤ 20 := ⟨(max 1 (min x 20)).toNat, by omega, by omega, by omega⟩
  have HN := Box.mk hn
  clear wx wF wB hn
  have hlen : (List.replicate (512 * n) (255 : UInt8)).length = 512 * n := List.length_replicate ..
  obtain ⟨s0, hs0⟩ : ∃ s, s = FS.new (List.replicate (512 * n) 255) := ⟨_, rfl⟩
  have NW := Box.mk (fun w => new_yes n w (by unfold sizeN; rw [decide_eq_true_iff]; omega))
  have RW := Box.mk (fun w => rnew_yes n w (by unfold sizeN; rw [decide_eq_true_iff]; omega))
  unfold Made at NW RW
  rw [← hs0] at NW RW
  have ok0 : s0.Ok := by rw [hs0]; exact FS.new_ok (by rw [hlen]; unfold sizeB; rw [decide_eq_true_iff]; omega)
  have n0 : s0.n.length = n := by rw [hs0]; unfold FS.new; simp only [List.length_replicate]; omega
  have S0 := Box.mk (show s0.Ok ∧ s0.n.length = n from ⟨ok0, n0⟩)
  have A0 := Box.mk (ArgW.start w x F B sl)
  have NNI := Box.mk (show 1 ≤ n ∧ n ≤ 20 from ⟨hn1, hn2⟩)
  clear hlen hs0 ok0 n0 bx
  go_enter Try.func7, Try.ntmps7
  go_upto_region 1 with (fail)
  generalize w.alloc (.cells #[.int .i64 x, .int .i64 F, .int .i64 B, sl] 45) = w0 at A0 ⊢
  obtain ⟨a0, a1, a2, a3⟩ := A0.out.cells
  go_cut [3] (fun v wx => v = .int .i64 (n : Nat) ∧ w0 = wx)
  case first =>
    go_wp2_with fail
    all_goals
      go_meet
      exact ⟨int_congr (by have := HN.out; omega), rfl⟩
  case rest =>
    obtain ⟨rfl, rfl⟩ := hcut
    clear a0 a1 a2 a3
    go_wp2_with fail
    refine (NW.out _).mono ?_
    rintro e w1 ⟨p, bb, cb, rfl, hf, hp, hbb, hcb, b1⟩
    have hzw : w.heap.size < w0.heap.size := (Array.getElem?_eq_some_iff.1 A0.out.g).1
    have A1 := Box.mk (A0.out.upd (Upd.of_below (S := []) b1) (by simp)); have HF := Box.mk hf
    have WP : Box (w.heap.size < p ∧ w.heap.size < bb ∧ w.heap.size < cb) := ⟨by omega⟩
    clear hf hp hbb hcb b1 hzw A0
    go_wp2_with fail
    refine (RW.out _).mono ?_
    rintro e w2 ⟨p', bb', cb', rfl, hf2, hp2, hbb2, hcb2, b2⟩
    have hl := HF.out.lt
    have A2 := Box.mk (A1.out.upd (Upd.of_below (S := []) b2) (by simp)); have HF2 := Box.mk hf2
    have HFa := Box.mk (HF.out.upd (Upd.of_below b2) (S := []) (by simp) (by simp) (by simp))
    have WQ : Box (w.heap.size < p' ∧ w.heap.size < bb' ∧ w.heap.size < cb') := ⟨by have := WP.out; omega⟩
    have NB : Box (p' ≠ p ∧ p' ≠ bb ∧ p' ≠ cb ∧ bb' ≠ p ∧ bb' ≠ bb ∧ bb' ≠ cb ∧ cb' ≠ p ∧ cb' ≠ bb ∧ cb' ≠ cb) := ⟨by omega⟩
    clear hf2 hp2 hbb2 hcb2 b2 hl HF A1 NW RW
    obtain ⟨a0, a1, a2, a3⟩ := A2.out.cells
    by_cases hin : In n F B
    · have in0 : In s0.n.length F B := by rw [S0.out.2]; exact hin
      have PY := Box.mk (fun w h => pnew_yes p bb cb F B s0 w h in0)
      have RY := Box.mk (fun w h => rpnew_yes p' bb' cb' F B s0 w h in0)
      have HIN := Box.mk hin
      clear in0 hin bF bB
      go_wp2_with fail
      refine (PY.out _ HFa.out).mono ?_
      rintro e w3 ⟨q, rfl, pa, hq, b3⟩
      have A3 := Box.mk (A2.out.upd (Upd.of_below (S := []) b3) (by simp)); have PA3 := Box.mk pa
      have HF3 := Box.mk (HFa.out.upd (Upd.of_below b3) (S := []) (by simp) (by simp) (by simp)); have HG3 := Box.mk (HF2.out.upd (Upd.of_below b3) (S := []) (by simp) (by simp) (by simp))
      have hl := HFa.out.lt; have hl2 := HF2.out.lt
      have NQ : Box (q ≠ p ∧ q ≠ bb ∧ q ≠ cb ∧ q ≠ p' ∧ q ≠ bb' ∧ q ≠ cb') := ⟨by omega⟩
      have LQ : Box (w.heap.size < q) := ⟨by have := WP.out; omega⟩
      clear pa hq b3 hl hl2 a0 a1 a2 a3
      obtain ⟨a0, a1, a2, a3⟩ := A3.out.cells
      go_wp2_with fail
      refine (RY.out _ HG3.out).mono ?_
      rintro e w4 ⟨q', rfl, ra, hq, b4⟩
      have hl := HF3.out.lt; have hl2 := HG3.out.lt; have hl3 := PA3.out.lt
      have ST0 : Box (RdS w w4 x F B sl n q p bb cb q' p' bb' cb' s0) := ⟨S0.out.1, S0.out.2, ⟨HF3.out.upd (Upd.of_below b4) (S := []) (by simp) (by simp) (by simp), PA3.out.upd (Upd.of_below b4) (S := []) (by simp), HG3.out.upd (Upd.of_below b4) (S := []) (by simp) (by simp) (by simp), ra⟩, A3.out.upd (Upd.of_below (S := []) b4) (by simp), by
        have := NQ.out; have := LQ.out; have := WP.out; have := WQ.out; have := NB.out
        constructor <;> omega⟩
      clear ra hq b4 hl hl2 hl3 a0 a1 a2 a3 HF3 HG3 PA3 A3 A2 HFa HF2 PY RY NQ LQ WP WQ NB S0
      obtain ⟨ao, cap, rfl, hmax, hops⟩ := hsc
      have hlen : l.length ≤ 9223372036854775807 := by unfold maxLen at hmax; omega
      have hops := Box.mk hops
      go_wp2_with fail
      go_loopw [4, 8, 10] (fun f pq i wr => ∃ (j q p bb cb : Nat) (s : FS), j ≤ l.length ∧ f = .pointer (some ⟨p, 0, none⟩) ∧ pq = .pointer (some ⟨q, 0, none⟩) ∧ i = .int .i64 j ∧ RdS w wr x F B (.slice ao l.length cap) n q p bb cb q' p' bb' cb' s) (fun _ _ i _ => l.length - (intOf i).toNat)
      case atStart => exact ⟨0, q, p, bb, cb, _, by omega, rfl, rfl, rfl, ST0.out⟩
      case round =>
        clear ST0
        obtain ⟨j, q, p, bb, cb, s, hj, rfl, rfl, rfl, st⟩ := hrel
        have ST := Box.mk st
        obtain ⟨e0, e1, e2, e3⟩ := st.ag.cells
        by_cases hlt : j < l.length
        · have hltI : (j : Int) < (l.length : Int) := by omega
          obtain ⟨o, ho⟩ : ∃ o, l[j]? = some o := ⟨_, List.getElem?_eq_getElem hlt⟩
          obtain ⟨a, rfl, HO⟩ := hops.out j o ho
          have hox : OpAt wr (a.add (j * 5)) o := HO.below st.ag.b HO.lt
          obtain ⟨q0, q1, q2, q3, q4⟩ := hox.flat
          obtain ⟨wk, hwk⟩ : ∃ wk, wk = wr.alloc (ob o) := ⟨_, rfl⟩
          have SK := Box.mk (show RdS w wk x F B (.slice (some a) l.length cap) n q p bb cb q' p' bb' cb' s from st.same (by rw [hwk]; exact (Upd.refl [] wr).alloc _))
          have OX := Box.mk HO.ok
          have OB : Box (wk.heap[wr.heap.size]? = some (ob o)) := ⟨by rw [hwk]; exact heap_alloc_new _ _⟩
          have KN : Box (wr.heap.size ∉ [p, bb, cb] ∧ wr.heap.size ∉ [p', bb', cb']) := ⟨by have := st.pd.lt; simp; omega⟩
          have SIN : Box (In s.n.length F B) := ⟨by rw [st.nn]; exact HIN.out⟩
          have NQ := Box.mk st.ap.n1; have NQ' := Box.mk st.ap.n2
          obtain ⟨z0, z1, z2, z3, z4⟩ := ob_cells OB.out
          have HLT := Box.mk hlt
          clear st hox HO ST
          unfold ob at hwk
          go_upto_region 14 with (fail)
          rw [← hwk]
          clear hwk q0 q1 q2 q3 q4 e0 e1 e2 e3
          go_upto_block 2 with (fail)
          go_cut [4, 8, 12, 13, 14, 15, 16, 17] (fun f pq a1 b1 t1 t2 x1 x2 wx => Aft w x F B (.slice (some a) l.length cap) n q' p' bb' cb' wr.heap.size o f pq a1 b1 t1 t2 x1 x2 wx)
          case first =>
            go_wp2_with fail
            · as_aux_lemma =>
              have R1 := pread_any q p bb cb F B s o.a o.n _ SK.out.pd.f SK.out.ok SK.out.pd.pa SIN.out OX.out.a OX.out.n
              have R2 := rpread_any q' p' bb' cb' F B s o.a o.n _ SK.out.pd.m SK.out.ok SK.out.pd.ra SIN.out OX.out.a OX.out.n
              generalize preadV s F B o.a o.n = V at R1 R2
              obtain ⟨V1, V2⟩ := V
              dsimp only at R1 R2
              have R2 := Box.mk R2
              refine R1.mono ?_
              rintro e w5 ⟨rfl, rfl⟩
              go_wp2_with fail
              refine R2.out.mono ?_
              rintro e w6 ⟨rfl, hu⟩
              have S6 := Box.mk (SK.out.same hu); have OB6 := Box.mk (keep_ob OB.out hu (by simp))
              clear hu R2 z0 z1 z2 z3 z4
              go_wp2_with fail
              go_meet
              exact ⟨q, p, bb, cb, s, V2, V1, false, rfl, rfl, rfl, rfl, rfl, rfl, rfl, rfl, S6.out, OB6.out⟩
            · as_aux_lemma =>
              refine (pwrite_any q p bb cb F B s o.a o.s _ SK.out.pd.f SK.out.ok SK.out.pd.pa SIN.out NQ.out.2.1 NQ.out.1 OX.out.a OX.out.s).mono ?_
              rintro e w5 ⟨rfl, hf, hu⟩
              have HF5 := Box.mk hf; have HU5 := Box.mk (hu.mono (T := [p, bb, cb]) (by simp)); have OB5 := Box.mk (keep_ob OB.out HU5.out KN.out.1); have HM5 := Box.mk (SK.out.pd.one SK.out.ap HF5.out HU5.out)
              clear hf hu z0 z1 z2 z3 z4
              obtain ⟨z0, z1, z2, z3, z4⟩ := ob_cells OB5.out
              go_wp2_with fail
              refine (rpwrite_any q' p' bb' cb' F B s o.a o.s _ HM5.out.m SK.out.ok HM5.out.ra SIN.out NQ'.out.2.1 NQ'.out.1 OX.out.a OX.out.s).mono ?_
              rintro e w6 ⟨rfl, hf, hu⟩
              have HF6 := Box.mk hf; have HU6 := Box.mk (hu.mono (T := [p', bb', cb']) (by simp)); have OB6 := Box.mk (keep_ob OB5.out HU6.out KN.out.2)
              clear hf hu z0 z1 z2 z3 z4
              go_wp2_with fail
              go_meet
              exact ⟨q, p, bb, cb, _, _, ⟨#[]⟩, false, rfl, rfl, rfl, rfl, rfl, rfl, rfl, rfl, SK.out.of (FS.pwrite_ok SK.out.ok F B o.a _).1 (FS.pwrite_ok SK.out.ok F B o.a _).2 HF5.out HU5.out HF6.out HU6.out, OB6.out⟩
            · as_aux_lemma =>
              refine (perase_any q p bb cb F B s o.a _ SK.out.pd.f SK.out.ok SK.out.pd.pa SIN.out).mono ?_
              rintro e w5 ⟨rfl, hf, hu⟩
              have HF5 := Box.mk hf; have HU5 := Box.mk (hu.mono (T := [p, bb, cb]) (by simp)); have OB5 := Box.mk (keep_ob OB.out HU5.out KN.out.1); have HM5 := Box.mk (SK.out.pd.one SK.out.ap HF5.out HU5.out)
              clear hf hu z0 z1 z2 z3 z4
              obtain ⟨z0, z1, z2, z3, z4⟩ := ob_cells OB5.out
              go_wp2_with fail
              refine (rperase_any q' p' bb' cb' F B s o.a _ HM5.out.m SK.out.ok HM5.out.ra SIN.out).mono ?_
              rintro e w6 ⟨rfl, hf, hu⟩
              have HF6 := Box.mk hf; have HU6 := Box.mk (hu.mono (T := [p', bb', cb']) (by simp)); have OB6 := Box.mk (keep_ob OB5.out HU6.out KN.out.2)
              clear hf hu z0 z1 z2 z3 z4
              go_wp2_with fail
              go_meet
              exact ⟨q, p, bb, cb, _, _, ⟨#[]⟩, false, rfl, rfl, rfl, rfl, rfl, rfl, rfl, rfl, SK.out.of (FS.perase_ok SK.out.ok F B o.a).1 (FS.perase_ok SK.out.ok F B o.a).2 HF5.out HU5.out HF6.out HU6.out, OB6.out⟩
            · as_aux_lemma =>
              have R1 := pclean_any q p bb cb F B s o.a o.n _ SK.out.pd.f SK.out.ok SK.out.pd.pa SIN.out OX.out.a OX.out.n
              have R2 := rpclean_any q' p' bb' cb' F B s o.a o.n _ SK.out.pd.m SK.out.ok SK.out.pd.ra SIN.out OX.out.a OX.out.n
              generalize pcleanV s F B o.a o.n = V at R1 R2
              obtain ⟨V1, V2⟩ := V
              dsimp only at R1 R2
              have R2 := Box.mk R2
              refine R1.mono ?_
              rintro e w5 ⟨rfl, rfl⟩
              go_wp2_with fail
              refine R2.out.mono ?_
              rintro e w6 ⟨rfl, hu⟩
              have S6 := Box.mk (SK.out.same hu); have OB6 := Box.mk (keep_ob OB.out hu (by simp))
              clear hu R2 z0 z1 z2 z3 z4
              go_wp2_with fail
              go_meet
              exact ⟨q, p, bb, cb, s, V2, ⟨#[]⟩, V1, rfl, rfl, rfl, rfl, rfl, rfl, rfl, rfl, S6.out, OB6.out⟩
            · as_aux_lemma =>
              refine (arm_any p bb cb s o.n o.a o.m _ SK.out.pd.f OX.out.a).mono ?_
              rintro e w5 ⟨rfl, hf, hu⟩
              have HF5 := Box.mk hf; have HU5 := Box.mk (hu.mono (T := [p, bb, cb]) (by simp)); have OB5 := Box.mk (keep_ob OB.out HU5.out KN.out.1); have HM5 := Box.mk (SK.out.pd.one SK.out.ap HF5.out HU5.out)
              clear hf hu z0 z1 z2 z3 z4
              obtain ⟨z0, z1, z2, z3, z4⟩ := ob_cells OB5.out
              go_wp2_with fail
              refine (rarm_any p' bb' cb' s o.n o.a o.m _ HM5.out.m OX.out.a).mono ?_
              rintro e w6 ⟨rfl, hf, hu⟩
              have HF6 := Box.mk hf; have HU6 := Box.mk (hu.mono (T := [p', bb', cb']) (by simp)); have OB6 := Box.mk (keep_ob OB5.out HU6.out KN.out.2)
              clear hf hu z0 z1 z2 z3 z4
              go_wp2_with fail
              go_meet
              exact ⟨q, p, bb, cb, _, _, ⟨#[]⟩, false, rfl, rfl, rfl, rfl, rfl, rfl, rfl, rfl, SK.out.of (FS.arm_ok SK.out.ok _ _ _ OX.out.n.2 OX.out.a.2) (congrArg List.length (arm_out s o.n o.a o.m 0 0).2) HF5.out HU5.out HF6.out HU6.out, OB6.out⟩
            · as_aux_lemma =>
              refine (revive_any p bb cb s _ SK.out.pd.f).mono ?_
              rintro e w5 ⟨rfl, hf, hu⟩
              have HF5 := Box.mk hf; have HU5 := Box.mk (hu.mono (T := [p, bb, cb]) (by simp)); have OB5 := Box.mk (keep_ob OB.out HU5.out KN.out.1); have HM5 := Box.mk (SK.out.pd.one SK.out.ap HF5.out HU5.out)
              clear hf hu z0 z1 z2 z3 z4
              obtain ⟨z0, z1, z2, z3, z4⟩ := ob_cells OB5.out
              go_wp2_with fail
              refine (rrevive_any p' bb' cb' s _ HM5.out.m).mono ?_
              rintro e w6 ⟨rfl, hf, hu⟩
              have HF6 := Box.mk hf; have HU6 := Box.mk (hu.mono (T := [p', bb', cb']) (by simp)); have OB6 := Box.mk (keep_ob OB5.out HU6.out KN.out.2)
              clear hf hu z0 z1 z2 z3 z4
              go_wp2_with fail
              go_meet
              exact ⟨q, p, bb, cb, _, 0, ⟨#[]⟩, false, rfl, rfl, rfl, rfl, rfl, rfl, rfl, rfl, SK.out.of (back_ok SK.out.ok) (congrArg List.length (back_out s 0 0).2) HF5.out HU5.out HF6.out HU6.out, OB6.out⟩
            · as_aux_lemma =>
              refine (clone_any p bb cb s _ SK.out.pd.f SK.out.ok).mono ?_
              rintro e w5 ⟨p2, bb2, cb2, rfl, hf, hp2, hbb2, hcb2, hb⟩
              have hlt1 := SK.out.pd.lt
              have hz := hb.size
              have S5 := Box.mk (SK.out.same (Upd.of_below hb)); have OB5 := Box.mk (keep_ob OB.out (Upd.of_below (S := []) hb) (by simp)); have HF5 := Box.mk hf
              have LT5 : Box (wk.heap.size ≤ p2 ∧ wk.heap.size ≤ bb2 ∧ wk.heap.size ≤ cb2 ∧ wk.heap.size ≤ w5.heap.size) := ⟨by omega⟩
              clear hf hp2 hbb2 hcb2 hlt1 hz hb z0 z1 z2 z3 z4
              go_wp2_with fail
              refine (pclone_any q p p2 F B _ S5.out.pd.pa).mono ?_
              rintro e w6 ⟨rfl, pa, hb⟩
              have hl5 := HF5.out.lt; have hl6 := S5.out.pd.lt; have hlk := SK.out.pd.lt; have hzk := SK.out.ag.b.size; have ap := SK.out.ap; have hl55 := LT5.out
              have hka := (Array.getElem?_eq_some_iff.1 SK.out.ag.g).1
              have HF6 := Box.mk (HF5.out.upd (Upd.of_below hb) (S := []) (by simp) (by simp) (by simp)); have S6 := Box.mk (S5.out.same (Upd.of_below hb)); have OB6 := Box.mk (keep_ob OB5.out (Upd.of_below (S := []) hb) (by simp)); have PA6 := Box.mk pa
              have AP6 : Box (Apar w.heap.size w5.heap.size p2 bb2 cb2 q' p' bb' cb') := ⟨by
                have l2 := ap.l2; have n2 := ap.n2
                constructor <;> omega⟩
              have DJ : Box (w5.heap.size ∉ [p, bb, cb] ∧ p2 ∉ [p, bb, cb] ∧ bb2 ∉ [p, bb, cb] ∧ cb2 ∉ [p, bb, cb]) := ⟨by simp; omega⟩
              clear pa hb hl5 hl6 hlk hzk ap hl55 hka
              go_wp2_with fail
              refine (pwrite_any q p bb cb F B s 0 ⟨#[0]⟩ _ S6.out.pd.f SK.out.ok S6.out.pd.pa SIN.out NQ.out.2.1 NQ.out.1 (by decide) (by decide)).mono ?_
              rintro e w7 ⟨rfl, hf, hu⟩
              have OK7 := Box.mk (FS.pwrite_ok SK.out.ok F B 0 (⟨#[0]⟩ : ByteArray).data.toList)
              have F7 := Box.mk hf; have U7 := Box.mk (hu.mono (T := [p, bb, cb]) (by simp)); have P7 := Box.mk (S6.out.pd.pa.upd (hu.mono (T := [p, bb, cb]) (by simp)) SK.out.ap.s1.1)
              clear hf hu
              go_wp2_with fail
              refine (perase_any q p bb cb F B _ 0 _ F7.out OK7.out.1 P7.out (by rw [OK7.out.2]; exact SIN.out)).mono ?_
              rintro e w8 ⟨rfl, hf, hu⟩
              have U8 := Box.mk (U7.out.trans hu); clear hf hu
              go_wp2_with fail
              go_meet
              have ap := SK.out.ap
              exact ⟨w5.heap.size, p2, bb2, cb2, s, 0, ⟨#[]⟩, false, rfl, rfl, rfl, rfl, rfl, rfl, rfl, rfl, ⟨SK.out.ok, SK.out.nn, ⟨HF6.out.upd U8.out DJ.out.2.1 DJ.out.2.2.1 DJ.out.2.2.2, PA6.out.upd U8.out DJ.out.1, S6.out.pd.m.upd U8.out ap.s1.2.2.1 ap.s1.2.2.2.1 ap.s1.2.2.2.2, S6.out.pd.ra.upd U8.out ap.s1.2.1⟩, S6.out.ag.upd U8.out ap.g1, AP6.out⟩, keep_ob OB6.out U8.out KN.out.1⟩
            · go_meet
              exact ⟨q, p, bb, cb, s, 0, ⟨#[]⟩, false, rfl, rfl, rfl, rfl, rfl, rfl, rfl, rfl, SK.out, OB.out⟩
          case rest =>
           as_aux_lemma =>
            obtain ⟨q2, p2, bb2, cb2, s2, e, t, y, rfl, rfl, rfl, rfl, rfl, rfl, rfl, rfl, st, hob⟩ := hcut
            clear SK OX OB KN SIN NQ NQ' z0 z1 z2 z3 z4
            obtain ⟨z0, z1, z2, z3, z4⟩ := ob_cells hob
            obtain ⟨bcap, ccap, hb, hc, d0, d1, d2, d3, d4, d5, d6⟩ := st.pd.m.cells
            have hcv := fun n => run_bytes_at Try.prog (wc.drewN n) bb' 0 bcap s2.b 52 9 5 _ rfl Try.underlying52 Try.underlying5 Try.underlying9 (fun j u hu => by rw [Nat.zero_add]; exact (st.pd.m.byte j u hu).1)
            clear z0 z2 z3 z4 d1 d3 d4 d5 hb hc hob
            have PN := Box.mk (fun n : Nat => st.same ((Upd.refl [] wc).drewN n))
            have HS2 : Box (In s2.n.length F B) := ⟨by rw [st.nn]; exact HIN.out⟩
            have hq1 : (e != e) = false := by simp
            have hq2 : (t.toList != t.toList) = false := by simp
            have hq3 : (y != y) = false := by simp
            clear st
            go_wp2_with fail
            go_quiet (first
              | (go_at_call 19; exact quiet_calls (image_any p2 bb2 cb2 s2 _ (PN.out _).pd.f))
              | (go_at_call 20; exact quiet_calls (steps_any p2 bb2 cb2 s2 _ (PN.out _).pd.f))
              | (go_at_call 35; exact quiet_calls2 (pcount_q q2 p2 bb2 cb2 F B s2 o.a _ (PN.out _).pd.f (PN.out 0).ok (PN.out _).pd.pa HS2.out))
              | (go_at_call 36; exact quiet_calls2 (rpcount_q q' p' bb' cb' F B s2 o.a _ (PN.out _).pd.m (PN.out 0).ok (PN.out _).pd.ra HS2.out))
              | (go_at_call 37; exact quiet_calls (pdead_any q2 p2 bb2 cb2 F B s2 _ (PN.out _).pd.f (PN.out _).pd.pa))
              | (go_at_call 22; exact quiet_calls (size_any q2 p2 F B _ _ (PN.out _).pd.pa HS2.out))
              | (go_at_call 38; exact quiet_calls (rsize_any q' p' F B _ _ (PN.out _).pd.ra HS2.out)))
            go_wp2_with fail
            exact ⟨⟨j + 1, q2, p2, bb2, cb2, s2, by have := HLT.out; omega, rfl, rfl, by go_num, PN.out _⟩, by have := HLT.out; simp [intOf]; omega⟩
        · as_aux_lemma =>
          obtain rfl : j = l.length := by omega
          go_wp2_with fail
          refine (pfixed_any _).mono ?_
          rintro e w7 ⟨rfl, b7⟩
          have B7 := Box.mk (ST.out.ag.b.trans (b7.mono ST.out.ag.b.size))
          clear b7
          go_wp2_with fail
          go_ret
          exact ⟨rfl, B7.out⟩
    · as_aux_lemma =>
      have PN := Box.mk (fun w h => pnew_no p bb cb F B s0 w h S0.out.1 (by rw [S0.out.2]; exact hin) bF)
      have RN := Box.mk (fun w h => rpnew_no p' bb' cb' F B s0 w h S0.out.1 (by rw [S0.out.2]; exact hin) bF)
      clear hin bF bB
      go_wp2_with fail
      refine (PN.out _ HFa.out).mono ?_
      rintro e w3 ⟨rfl, b3⟩
      have A3 := Box.mk (A2.out.upd (Upd.of_below (S := []) b3) (by simp))
      have HG3 := Box.mk (HF2.out.upd (Upd.of_below b3) (S := []) (by simp) (by simp) (by simp))
      clear b3 a0 a1 a2 a3
      obtain ⟨a0, a1, a2, a3⟩ := A3.out.cells
      go_wp2_with fail
      refine (RN.out _ HG3.out).mono ?_
      rintro e w4 ⟨rfl, b4⟩
      have A4 := Box.mk (A3.out.upd (Upd.of_below (S := []) b4) (by simp))
      clear b4 a0 a1 a2 a3
      go_wp2_with fail
      refine (pfixed_any _).mono ?_
      rintro e w5 ⟨rfl, b5⟩
      have B5 := Box.mk (A4.out.b.trans (b5.mono A4.out.b.size))
      clear b5
      go_wp2_with fail
      go_ret
      exact ⟨rfl, B5.out⟩
theorem own : ownKnob Try.prog.godebug = none := by kernel_rfl
theorem laidOut : laidOutB Try.prog = true := by kernel_rfl
set_option maxRecDepth 100000 in
theorem lifted (os : Os) (started : os.Started) (H : Type) (enc : TypeId × Value → H) :
    ReturnsInHanded {} Try.checked os 7 .any (Rows.partDoesSpec.pre6 enc Try.prog Try.f7 Rows.partDoesRow.domain false) (Rows.partDoesSpec.post enc Try.prog Try.f7 false true false false) := by
  refine returnsInHanded_of_change (C := Try.checked) own started (by kernel_rfl) Try.func7
    (ChangeSpec.witness6 (enc := enc) (C := Try.checked) false ⟨#[], #[.agg #[.int .i64 0, .int .i64 0, .int .i64 0, .slice none 0 0]], []⟩ 8 (by kernel_rfl) (by kernel_rfl) (by kernel_rfl) (by kernel_rfl)) ?_
  intro W base args ds gs before hval0 hW hcnd _
  have hval : ∀ (j : Nat) t v, Try.f7.params[j]? = some t → args[j]? = some v → Value.okWide Try.prog W .any base t v := hval0
  have hW' := hW
  obtain ⟨p, q, hA0, hV, rfl, hfz, hnd⟩ := hW
  have hA : DataW.TrodAll enc Try.prog W 0 (fun _ => true) true Try.f7.params.toList args.toList ds p := hA0
  rw [Try.params7] at hA hval
  obtain ⟨v0, vs0, d0, ds0, p0, q0, hargs, rfl, rfl, h0, r0⟩ := trodAll_cons hA
  obtain ⟨rfl, rfl, rfl⟩ := trodAll_nil r0
  obtain rfl : args = #[v0] := by cases args; simp_all
  obtain ⟨rfl, rfl⟩ := trodVars_none hV
  obtain ⟨x0, F0, B0, sl0, l0, rfl, wx0, wF0, wB0, hsc0⟩ := open_pw (hval 0 45 v0 rfl rfl) h0
  clear hA0 hval0
  refine (walk x0 F0 B0 sl0 l0 wx0 wF0 wB0 W hsc0).mono fun e W' ⟨he, bel⟩ => ?_
  subst he
  exact ⟨_, rfl, _, _, _, [], _, [], hW', trodAll_mk1 (shut_bool Try.underlying4 _), (trodAll_cons_mk (Below.trod laidOut (by kernel_rfl) (of_decide_eq_true (by kernel_rfl)) h0 bel (by obtain ⟨f, hf⟩ := h0; exact DataW.trod_lt _ _ _ _ hf)) trodAll_mk0), rfl, bel.frame _, fun h => by cases h⟩

theorem proved : Rows.PartDoesSaid :=
  OpenClaim.holds_of_wide 7 Try.f7 rfl rfl rfl rfl rfl rfl rfl ⟨rfl, rfl, rfl, rfl, rfl⟩ rfl rfl rfl rfl rfl (by kernel_rfl) Try.func7 (by kernel_rfl)
    (of_decide_eq_true (by kernel_rfl)) (by unfold Func.isWrapper; first | (rw [if_pos (by decide +kernel)]; kernel_rfl) | (rw [if_neg (by decide +kernel)]; exact ⟨rfl, rfl⟩))
    (fun os started H enc _ => lifted os started H enc)
#print axioms proved
end Go.Proofs.Ytaeomiedmjedgaa.partDoes
