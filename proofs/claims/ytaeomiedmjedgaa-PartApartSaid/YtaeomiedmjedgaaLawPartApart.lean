/- Whatever blocks, region and script come in, the call of PartApart returns true and leaves its argument as it was. No condition. -/
import Derived.Test.YtaeomiedmjedgaaPartJ
import Derived.Deep.DeepCutAuto
import Derived.Deep.CutBlock
import Derived.IntWalk
import Derived.ProofKit
import Derived.OpenShut
import Derived.ShutString
import Derived.ChangeOld
namespace Go.Proofs.Ytaeomiedmjedgaa.partApart
open Go Go.RowKit Go.ChangeShapes Go.WideShapes Go.ChangeAt
open Go.ChangeMaps (open_string shut_string)
set_option linter.unusedVariables false

/-- What stands between the calls. -/
structure ApS (w : World) (x F B : Int) (sl : Value) (n f t p bb cb q : Nat) (s : FS) (wx : World) : Prop where
  ok : s.Ok
  n : s.n.length = n
  zo : Zo s f t
  fl : Fl 75 wx p bb cb s
  pa : Pa wx q p F B
  ag : ArgW w wx x F B sl
theorem back_ok {s : FS} (h : s.Ok) : s.back.Ok := ⟨by simp [FS.back], h.keep, h.len, h.few⟩
theorem zeros_at (m g : Nat) (W : World) (h : W.heap[g]? = some (.cells (Array.replicate m (.int .u8 0)) 5 (0, 0))) : (convert 52 9 (.slice (some ⟨g, 0, none⟩) m m)).run Try.prog W = .ok (.string ⟨(List.replicate m 0).toArray⟩) W :=
  run_bytes_at Try.prog W g 0 m (List.replicate m 0) 52 9 5 m (by simp) Try.underlying52 Try.underlying5 Try.underlying9 (fun j u hu => by
    rw [List.getElem?_replicate] at hu
    split at hu
    · rename_i hj
      cases hu
      rw [cell_of_row _ _ _ _ _ _ h, Array.getElem?_replicate, if_pos (by omega)]; rfl
    · cases hu)
set_option maxRecDepth 100000 in
set_option maxHeartbeats 8000000 in
theorem walk (x F B : Int) (sl : Value) (l : List OpR) (wx : (Lit.int .i64 x).wf = true) (wF : (Lit.int .i64 F).wf = true) (wB : (Lit.int .i64 B).wf = true) (w : World) (hsc : Script w sl l) :
    Calls Try.prog 6 #[.agg #[.int .i64 x, .int .i64 F, .int .i64 B, sl]] w fun e w' => e = .returned (.bool true) ∧ Below w.heap.size w w' := by
  have bx := bounds_i64 wx; have bF := bounds_i64 wF; have bB := bounds_i64 wB
  obtain ⟨n, hn, hn1, hn2⟩ : ∃ n : Nat, (n : Int) = max 1 (min x 20) ∧ 1 ≤ n ∧ n ≤ 20 := ⟨(max 1 (min x 20)).toNat, by omega, by omega, by omega⟩
  have HN := Box.mk hn; have SC := Box.mk hsc
  clear wx wF wB hn
  obtain ⟨m, hm⟩ : ∃ m, m = 512 * n := ⟨_, rfl⟩
  have hmw : IntKind.i64.wrap (512 * (n : Int)) = (m : Int) := by rw [IntKind.wrap_i64]; omega
  obtain ⟨z, hz⟩ : ∃ z : ByteArray, z = ⟨(List.replicate m 0).toArray⟩ := ⟨_, rfl⟩
  have hzl : z.data.toList = List.replicate m 0 := by rw [hz]
  have hzs : z.size = m := by rw [hz]; show (List.replicate m (0 : UInt8)).toArray.size = m; simp
  have OP := Box.mk (fun w => open_yes z w (by rw [hzs]; unfold sizeB; rw [decide_eq_true_iff]; omega))
  obtain ⟨s0, hs0⟩ : ∃ s, s = FS.new z.data.toList := ⟨_, rfl⟩
  unfold Made at OP
  rw [← hs0] at OP
  have ok0 : s0.Ok := by rw [hs0]; exact FS.new_ok (by rw [hzl, List.length_replicate]; unfold sizeB; rw [decide_eq_true_iff]; omega)
  have n0 : s0.n.length = n := by rw [hs0]; unfold FS.new; simp only [List.length_replicate, hzl]; omega
  have hmk := fun w => make_bytes m m rfl (by omega) w
  have hcv0 := fun w => zeros_str m w
  rw [← hz] at hcv0
  have A0 := Box.mk (ArgW.start w x F B sl)
  by_cases hin : In n F B
  · obtain ⟨f, hf⟩ : ∃ f : Nat, F = f := ⟨F.toNat, by have := hin.lo; omega⟩
    obtain ⟨b, hb⟩ : ∃ b : Nat, B = b := ⟨B.toNat, by have := hin.some; omega⟩
    subst hf hb
    obtain ⟨t, ht⟩ : ∃ t, t = 512 * f + 512 * b := ⟨_, rfl⟩
    obtain ⟨fr, hfr⟩ : ∃ t, t = 512 * f := ⟨_, rfl⟩
    have hb1 : 1 ≤ b := by have := hin.some; omega
    have hfb : f + b ≤ n := by have := hin.hi; omega
    have in0 : In s0.n.length f b := by rw [n0]; exact hin
    have PY := Box.mk (fun p bb cb w h => pnew_yes p bb cb f b s0 w h in0)
    have SZ := Box.mk (fun q p w h => size_any q p f b n w h hin)
    have k1 : IntKind.i64.wrap (512 * (f : Int)) = (fr : Int) := by rw [IntKind.wrap_i64]; omega
    have k2 : IntKind.i64.wrap ((fr : Int) + 512 * (b : Int)) = (t : Int) := by rw [IntKind.wrap_i64]; omega
    have f1 : decide ((fr : Int) < 0) = false := by rw [decide_eq_false_iff_not]; omega
    have f2 : decide (m < t) = false := by rw [decide_eq_false_iff_not]; omega
    have f3 : decide (t ≤ fr) = false := by rw [decide_eq_false_iff_not]; omega
    have f4 : decide ((m : Int) < (t : Int)) = false := by rw [decide_eq_false_iff_not]; omega
    have f5 : decide ((t : Int) ≤ (fr : Int)) = false := by rw [decide_eq_false_iff_not]; omega
    have bl0 : s0.b.length = m := by rw [hs0]; show z.data.toList.length = m; rw [hzl, List.length_replicate]
    have zo0 : Zo s0 fr t := fun k _ hk => by rw [bl0] at hk; rw [hs0]; show z.data.toList[k]? = some 0; rw [hzl, List.getElem?_replicate, if_pos hk]
    have S0 := Box.mk (show s0.Ok ∧ s0.n.length = n ∧ Zo s0 fr t from ⟨ok0, n0, zo0⟩)
    have HIN := Box.mk hin; have HFT := Box.mk (show fr = 512 * f ∧ t = 512 * f + 512 * b ∧ m = 512 * n ∧ 1 ≤ b ∧ f + b ≤ n ∧ n ≤ 20 from ⟨hfr, ht, hm, hb1, hfb, hn2⟩)
    clear hin bx bF bB hm hz hzl hzs hs0 n0 hn1 hn2 ok0 in0 bl0 zo0 ht hfr hb1 hfb
    go_enter Try.func6, Try.ntmps6
    go_upto_region 1 with (fail)
    generalize w.alloc (.cells #[.int .i64 x, .int .i64 (f : Int), .int .i64 (b : Int), sl] 45) = w0 at A0 ⊢
    obtain ⟨a0, a1, a2, a3⟩ := A0.out.cells
    go_cut [3] (fun v wx => v = .int .i64 (n : Nat) ∧ w0 = wx)
    case first =>
      go_wp2_with fail
      all_goals
        go_meet
        exact ⟨int_congr (by have := HN.out; omega), rfl⟩
    case rest =>
      obtain ⟨rfl, rfl⟩ := hcut
      go_wp2_with fail
      refine (OP.out _).mono ?_
      rintro e w1 ⟨p, bb, cb, rfl, hf, hp, hbb, hcb, b1⟩
      have hzw : w.heap.size < w0.heap.size := (Array.getElem?_eq_some_iff.1 A0.out.g).1
      have A1 := Box.mk ((A0.out.upd ((Upd.refl [] _).alloc _) (by simp)).upd (Upd.of_below (S := []) b1) (by simp))
      have HF := Box.mk hf
      have WP : Box (w.heap.size < p ∧ w.heap.size < bb ∧ w.heap.size < cb) := ⟨by simp at hp hbb hcb; omega⟩
      obtain ⟨e0, e1, e2, e3⟩ := A1.out.cells
      clear hf hp hbb hcb b1 a0 a1 a2 a3 hzw A0
      go_wp2_with fail
      refine (PY.out p bb cb _ HF.out).mono ?_
      rintro e w2 ⟨q, rfl, pa, hq, b2⟩
      have hl := HF.out.lt
      have NQ : Box (q ≠ p ∧ q ≠ bb ∧ q ≠ cb) := ⟨by omega⟩
      have A2 := Box.mk (A1.out.upd (Upd.of_below (S := []) b2) (by simp))
      have HF2 := Box.mk (HF.out.upd (Upd.of_below b2) (S := []) (by simp) (by simp) (by simp)); have PA := Box.mk pa
      clear pa b2 hl hq e0 e1 e2 e3 HF A1
      obtain ⟨e0, e1, e2, e3⟩ := A2.out.cells
      go_wp2_with fail
      refine (SZ.out q p _ PA.out).mono ?_
      rintro e w3 ⟨rfl, rfl⟩
      go_wp2_with fail
      have ST0 := Box.mk (show ApS w x f b sl n fr t p bb cb q s0 w2 from ⟨S0.out.1, S0.out.2.1, S0.out.2.2, HF2.out, PA.out, A2.out⟩)
      obtain ⟨ao, cap, rfl, hmax, hops⟩ := hsc
      have hlen : l.length ≤ 9223372036854775807 := by unfold maxLen at hmax; omega
      have hops := Box.mk hops
      clear f1 f2 f3 f4 f5 k1 k2 e0 e1 e2 e3 HF2 PA A2 hmk hcv0 PY OP S0
      go_wp2_with fail
      go_loopw [9] (fun i wr => ∃ (j : Nat) (s : FS), j ≤ l.length ∧ i = .int .i64 j ∧ ApS w x f b (.slice ao l.length cap) n fr t p bb cb q s wr) (fun i _ => l.length - (intOf i).toNat)
      case atStart => exact ⟨0, _, by omega, rfl, ST0.out⟩
      case round =>
        clear ST0
        obtain ⟨j, s, hj, rfl, st⟩ := hrel
        have ST := Box.mk st
        obtain ⟨e0, e1, e2, e3⟩ := st.ag.cells
        by_cases hlt : j < l.length
        · obtain ⟨o, ho⟩ : ∃ o, l[j]? = some o := ⟨_, List.getElem?_eq_getElem hlt⟩
          have hltI : (j : Int) < (l.length : Int) := by omega
          obtain ⟨a, rfl, HO⟩ := hops.out j o ho
          have hox : OpAt wr (a.add (j * 5)) o := HO.below st.ag.b HO.lt
          obtain ⟨q0, q1, q2, q3, q4⟩ := hox.flat
          obtain ⟨wk, hwk⟩ : ∃ wk, wk = wr.alloc (.cells #[.int .i64 o.k, .int .i64 o.a, .int .i64 o.n, .string o.s, .int .u8 (o.m.toNat : Int)] 47) := ⟨_, rfl⟩
          have uk : Upd [] wr wk := by rw [hwk]; exact (Upd.refl [] wr).alloc _
          have FK := Box.mk (st.fl.upd uk (by simp) (by simp) (by simp)); have PK := Box.mk (st.pa.upd uk (by simp)); have AK := Box.mk (st.ag.upd uk (by simp))
          have OX := Box.mk HO.ok
          have rk : wk.heap[wr.heap.size]? = some (.cells #[.int .i64 o.k, .int .i64 o.a, .int .i64 o.n, .string o.s, .int .u8 (o.m.toNat : Int)] 47 (0, 0)) := by rw [hwk]; exact heap_alloc_new _ _
          have c0 : wk.cell? ⟨wr.heap.size, 0, none⟩ = some (.int .i64 o.k) := (cell_of_row _ _ _ _ _ _ rk).trans rfl
          have c1 : wk.cell? ⟨wr.heap.size, 1, none⟩ = some (.int .i64 o.a) := (cell_of_row _ _ _ _ _ _ rk).trans rfl
          have c2 : wk.cell? ⟨wr.heap.size, 2, none⟩ = some (.int .i64 o.n) := (cell_of_row _ _ _ _ _ _ rk).trans rfl
          have c3 : wk.cell? ⟨wr.heap.size, 3, none⟩ = some (.string o.s) := (cell_of_row _ _ _ _ _ _ rk).trans rfl
          have c4 : wk.cell? ⟨wr.heap.size, 4, none⟩ = some (.int .u8 (o.m.toNat : Int)) := (cell_of_row _ _ _ _ _ _ rk).trans rfl
          clear st hox HO uk rk
          go_upto_region 16 with (fail)
          rw [← hwk]
          clear hwk q0 q1 q2 q3 q4 e0 e1 e2 e3
          go_upto_block 2 with (fail)
          have PW := Box.mk (pwrite_any q p bb cb f b s o.a o.s wk FK.out ST.out.ok PK.out (by rw [ST.out.n]; exact HIN.out) NQ.out.2.1 NQ.out.1 OX.out.a OX.out.s)
          have PE := Box.mk (perase_any q p bb cb f b s o.a wk FK.out ST.out.ok PK.out (by rw [ST.out.n]; exact HIN.out))
          have PA := Box.mk (arm_any p bb cb s o.n o.a o.m wk FK.out OX.out.a)
          have PR := Box.mk (revive_any p bb cb s wk FK.out)
          go_cut [] (fun wx => ∃ s', ApS w x f b (.slice (some a) l.length cap) n fr t p bb cb q s' wx)
          case first =>
            go_wp2_with fail
            · refine PW.out.mono ?_
              rintro e w5 ⟨rfl, hf, hu⟩
              have HF := Box.mk hf; have HU := Box.mk hu; clear hf hu
              go_wp2_with fail
              go_meet
              exact ⟨_, (FS.pwrite_ok ST.out.ok f b o.a _).1, (FS.pwrite_ok ST.out.ok f b o.a _).2.trans ST.out.n, ST.out.zo.out (by rw [HFT.out.1, HFT.out.2.1]; exact pwrite_out s f b o.a _), HF.out, PK.out.upd HU.out (by have := NQ.out; simp [this.1, this.2.1]), AK.out.upd HU.out (by intro i hi; have := WP.out; simp at hi; omega)⟩
            · refine PE.out.mono ?_
              rintro e w5 ⟨rfl, hf, hu⟩
              have HF := Box.mk hf; have HU := Box.mk hu; clear hf hu
              go_wp2_with fail
              go_meet
              exact ⟨_, (FS.perase_ok ST.out.ok f b o.a).1, (FS.perase_ok ST.out.ok f b o.a).2.trans ST.out.n, ST.out.zo.out (by rw [HFT.out.1, HFT.out.2.1]; exact perase_out s f b o.a), HF.out, PK.out.upd HU.out (by have := NQ.out; simp [this.1, this.2.1, this.2.2]), AK.out.upd HU.out (by intro i hi; have := WP.out; simp at hi; omega)⟩
            · refine PA.out.mono ?_
              rintro e w5 ⟨rfl, hf, hu⟩
              have HF := Box.mk hf; have HU := Box.mk hu; clear hf hu
              go_wp2_with fail
              go_meet
              exact ⟨_, FS.arm_ok ST.out.ok _ _ _ OX.out.n.2 OX.out.a.2, (congrArg List.length (arm_out s o.n o.a o.m fr t).2).trans ST.out.n, ST.out.zo.out (arm_out s o.n o.a o.m fr t).1, HF.out, PK.out.upd HU.out (by have := NQ.out; simp [this.1]), AK.out.upd HU.out (by intro i hi; have := WP.out; simp at hi; omega)⟩
            · refine PR.out.mono ?_
              rintro e w5 ⟨rfl, hf, hu⟩
              have HF := Box.mk hf; have HU := Box.mk hu; clear hf hu
              go_wp2_with fail
              go_meet
              exact ⟨_, back_ok ST.out.ok, (congrArg List.length (back_out s fr t).2).trans ST.out.n, ST.out.zo.out (back_out s fr t).1, HF.out, PK.out.upd HU.out (by have := NQ.out; simp [this.1]), AK.out.upd HU.out (by intro i hi; have := WP.out; simp at hi; omega)⟩
            · go_meet
              exact ⟨s, ST.out.ok, ST.out.n, ST.out.zo, FK.out, PK.out, AK.out⟩
          case rest =>
            clear PW PE PA PR FK PK AK OX c0 c1 c2 c3 c4 ST
            obtain ⟨s', st'⟩ := hcut
            have ST' := Box.mk st'
            have hbl : s'.b.length = m := by have := st'.ok.len; rw [st'.n] at this; rw [this]; exact HFT.out.2.2.1.symm
            have hlo := Zo.lo st'.zo (by have := HFT.out; omega)
            have hhi := Zo.hi st'.zo (by have := HFT.out; omega)
            rw [hbl] at hhi
            obtain ⟨S, hS⟩ : ∃ S : ByteArray, S = ⟨s'.b.toArray⟩ := ⟨_, rfl⟩
            have hSz : S.size = m := by rw [hS]; exact hbl
            have IM := Box.mk (fun wx h => image_any p bb cb s' wx h)
            rw [← hS] at IM hlo hhi
            clear hbl hS st'
            go_wp2_with fail
            refine (IM.out _ ST'.out.fl).mono ?_
            rintro e w6 ⟨rfl, rfl⟩
            have hft := HFT.out
            obtain ⟨Z1, hZ1⟩ : ∃ z : ByteArray, z = ⟨(List.replicate fr 0).toArray⟩ := ⟨_, rfl⟩
            obtain ⟨d, hd⟩ : ∃ d, d = m - t := ⟨_, rfl⟩
            obtain ⟨Z2, hZ2⟩ : ∃ z : ByteArray, z = ⟨(List.replicate d 0).toArray⟩ := ⟨_, rfl⟩
            rw [← hZ1] at hlo
            rw [← hd, ← hZ2, ← hSz] at hhi
            have hmk1 := fun w => make_bytes fr fr rfl (by omega) w
            have hcv1 := fun w : World => zeros_at fr w.heap.size (w.alloc (.cells (Array.replicate fr (.int .u8 0)) 5)).drew (heap_alloc_new w _)
            have hmk2 := fun w => make_bytes d d rfl (by omega) w
            have hcv2 := fun (w : World) (Y : Obj) => zeros_at d (w.heap.size + 1) ((w.alloc Y).alloc (.cells (Array.replicate d (.int .u8 0)) 5)).drew (by
              have := heap_alloc_new (w.alloc Y) (.cells (Array.replicate d (.int .u8 0)) 5)
              rw [World.size_alloc] at this; exact this)
            rw [← hZ1] at hcv1
            rw [← hZ2] at hcv2
            have hSI : (S.size : Int) = (m : Int) := by rw [hSz]
            have hw1 : IntKind.i64.wrap ((m : Int) - (t : Int)) = (d : Int) := by rw [IntKind.wrap_i64]; omega
            have hne : ((m : Int) != (m : Int)) = false := by simp
            have hq1 : (Z1.toList != Z1.toList) = false := by simp
            have hq2 : (Z2.toList != Z2.toList) = false := by simp
            have hl1 : (fr : Int) ≤ (m : Int) := by omega
            have hl2 : (t : Int) ≤ (m : Int) := by omega
            clear hft hZ1 hZ2 hd hSz
            go_upto_region 26 with (fail)
            go_region
            have hu := (((Upd.refl [] wc).alloc (.cells (Array.replicate fr (.int .u8 0)) 5)).alloc (.cells (Array.replicate d (.int .u8 0)) 5)).drew
            have ST2 := Box.mk (show ApS w x f b (.slice (some a) l.length cap) n fr t p bb cb q s' _ from ⟨ST'.out.ok, ST'.out.n, ST'.out.zo, ST'.out.fl.upd hu (by simp) (by simp) (by simp), ST'.out.pa.upd hu (by simp), ST'.out.ag.upd hu (by simp)⟩)
            clear hu ST' hmk1 hcv1 hmk2 hcv2 hlo hhi hSI hw1 hne hq1 hq2
            go_wp2_with fail
            exact ⟨⟨j + 1, s', by omega, by go_num, ST2.out⟩, by simp [intOf]; omega⟩
        · obtain rfl : j = l.length := by omega
          go_wp2_with fail
          refine (pfixed_any _).mono ?_
          rintro e w7 ⟨rfl, b7⟩
          have B7 := Box.mk (ST.out.ag.b.trans (b7.mono ST.out.ag.b.size))
          clear b7
          go_wp2_with fail
          go_ret
          exact ⟨rfl, B7.out⟩
  · have PN := Box.mk (fun p bb cb w h => pnew_no p bb cb F B s0 w h ok0 (by rw [n0]; exact hin) bF)
    clear hin bx bF bB hm hz hzl hzs hs0 n0 hn1 hn2 ok0
    go_enter Try.func6, Try.ntmps6
    go_upto_region 1 with (fail)
    generalize w.alloc (.cells #[.int .i64 x, .int .i64 F, .int .i64 B, sl] 45) = w0 at A0 ⊢
    obtain ⟨a0, a1, a2, a3⟩ := A0.out.cells
    go_cut [3] (fun v wx => v = .int .i64 (n : Nat) ∧ w0 = wx)
    case first =>
      go_wp2_with fail
      all_goals
        go_meet
        exact ⟨int_congr (by have := HN.out; omega), rfl⟩
    case rest =>
      obtain ⟨rfl, rfl⟩ := hcut
      go_wp2_with fail
      refine (OP.out _).mono ?_
      rintro e w1 ⟨p, bb, cb, rfl, hf, hp, hbb, hcb, b1⟩
      have hz0 : w0.heap.size ≤ (w0.alloc (.cells (Array.replicate m (.int .u8 0)) 5)).heap.size := by simp
      have A1 := Box.mk ((A0.out.upd ((Upd.refl [] _).alloc _) (by simp)).upd (Upd.of_below (S := []) b1) (by simp))
      have HF := Box.mk hf
      obtain ⟨e0, e1, e2, e3⟩ := A1.out.cells
      clear hf hp hbb hcb b1 a0 a1 a2 a3 hz0 A0
      go_wp2_with fail
      refine (PN.out p bb cb _ HF.out).mono ?_
      rintro e w2 ⟨rfl, b2⟩
      have A2 := Box.mk (A1.out.upd (Upd.of_below (S := []) b2) (by simp))
      clear b2 e0 e1 e2 e3
      go_wp2_with fail
      refine (pfixed_any _).mono ?_
      rintro e w3 ⟨rfl, b3⟩
      have B3 := Box.mk (A2.out.b.trans (b3.mono A2.out.b.size))
      go_wp2_with fail
      go_ret
      exact ⟨rfl, B3.out⟩
theorem own : ownKnob Try.prog.godebug = none := by kernel_rfl
theorem laidOut : laidOutB Try.prog = true := by kernel_rfl
set_option maxRecDepth 100000 in
theorem lifted (os : Os) (started : os.Started) (H : Type) (enc : TypeId × Value → H) :
    ReturnsInHanded {} Try.checked os 6 .any (Rows.partApartSpec.pre6 enc Try.prog Try.f6 Rows.partApartRow.domain false) (Rows.partApartSpec.post enc Try.prog Try.f6 false true false false) := by
  refine returnsInHanded_of_change (C := Try.checked) own started (by kernel_rfl) Try.func6
    (ChangeSpec.witness6 (enc := enc) (C := Try.checked) false ⟨#[], #[.agg #[.int .i64 0, .int .i64 0, .int .i64 0, .slice none 0 0]], []⟩ 8 (by kernel_rfl) (by kernel_rfl) (by kernel_rfl) (by kernel_rfl)) ?_
  intro W base args ds gs before hval0 hW hcnd _
  have hval : ∀ (j : Nat) t v, Try.f6.params[j]? = some t → args[j]? = some v → Value.okWide Try.prog W .any base t v := hval0
  have hW' := hW
  obtain ⟨p, q, hA0, hV, rfl, hfz, hnd⟩ := hW
  have hA : DataW.TrodAll enc Try.prog W 0 (fun _ => true) true Try.f6.params.toList args.toList ds p := hA0
  rw [Try.params6] at hA hval
  obtain ⟨v0, vs0, d0, ds0, p0, q0, hargs, rfl, rfl, h0, r0⟩ := trodAll_cons hA
  obtain ⟨rfl, rfl, rfl⟩ := trodAll_nil r0
  obtain rfl : args = #[v0] := by cases args; simp_all
  obtain ⟨rfl, rfl⟩ := trodVars_none hV
  obtain ⟨x0, F0, B0, sl0, l0, rfl, wx0, wF0, wB0, hsc0⟩ := open_pw (hval 0 45 v0 rfl rfl) h0
  clear hA0 hval0
  refine (walk x0 F0 B0 sl0 l0 wx0 wF0 wB0 W hsc0).mono fun e W' ⟨he, bel⟩ => ?_
  subst he
  exact ⟨_, rfl, _, _, _, [], _, [], hW', trodAll_mk1 (shut_bool Try.underlying4 _), (trodAll_cons_mk (Below.trod laidOut (by kernel_rfl) (of_decide_eq_true (by kernel_rfl)) h0 bel (by obtain ⟨f, hf⟩ := h0; exact DataW.trod_lt _ _ _ _ hf)) trodAll_mk0), rfl, bel.frame _, fun h => by cases h⟩

theorem proved : Rows.PartApartSaid :=
  OpenClaim.holds_of_wide 6 Try.f6 rfl rfl rfl rfl rfl rfl rfl ⟨rfl, rfl, rfl, rfl, rfl⟩ rfl rfl rfl rfl rfl (by kernel_rfl) Try.func6 (by kernel_rfl)
    (of_decide_eq_true (by kernel_rfl)) (by unfold Func.isWrapper; first | (rw [if_pos (by decide +kernel)]; kernel_rfl) | (rw [if_neg (by decide +kernel)]; exact ⟨rfl, rfl⟩))
    (fun os started H enc _ => lifted os started H enc)
#print axioms proved
end Go.Proofs.Ytaeomiedmjedgaa.partApart
