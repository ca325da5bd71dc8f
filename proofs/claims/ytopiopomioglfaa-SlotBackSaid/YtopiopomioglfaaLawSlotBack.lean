/- Whatever image, script and pieces come in, the call of SlotBack returns true and leaves its arguments as they were. No condition. -/
import Derived.Test.YtopiopomioglfaaM16
import Derived.Test.YtopiopomioglfaaM15
import Derived.Deep.DeepCutAuto
import Derived.Deep.CutBlock
import Derived.IntWalk
import Derived.ProofKit
import Derived.OpenShut
import Derived.ShutString
import Derived.ChangeOld
namespace Go.Proofs.Ytopiopomioglfaa.slotBack
set_option maxRecDepth 100000
open Go Go.RowKit Go.ChangeShapes Go.WideShapes Go.ChangeAt Sha
open Go.ChangeMaps (open_string shut_string)
set_option linter.unusedVariables false

theorem open_sl {H : Type} {enc : TypeId × Value → H} {w : World} {base : Nat} {spare : Nat → Bool} {held : Bool} {r : Reach} {b0 : Nat} {v : Value} {d : DataW H} {p : List MemPlace}
    (hv : Value.okWide Try.prog w r b0 22 v) (h : DataW.Trod enc Try.prog w base spare held 22 v d p) : ∃ l, Strs w v l := open_strs Try.underlying22 Try.underlying9 (by kernel_rfl) hv h
/-- A writer of the call's own. -/
structure Own1 (w wr : World) (B g q p bb cb : Nat) (s : FS) (ws : WS) : Prop where
  a : SlS w.heap.size wr (1 : Nat) B g q p bb cb s ws
  be : Below w.heap.size w wr
theorem Own1.one {w wr w1 : World} {B g q p bb cb : Nat} {s s' : FS} {ws ws' : WS} (h : Own1 w wr B g q p bb cb s ws) (hf : Fl 76 w1 p bb cb s') (hw : ∃ pg, Sw w1 g q ws' pg) (u : Upd [g, p, bb, cb] wr w1) : Own1 w w1 B g q p bb cb s' ws' :=
  ⟨h.a.next hf hw u, belU h.be u h.a.mem⟩
theorem Own1.same {w wr w1 : World} {B g q p bb cb : Nat} {s : FS} {ws : WS} (h : Own1 w wr B g q p bb cb s ws) (u : Upd [] wr w1) : Own1 w w1 B g q p bb cb s ws :=
  ⟨h.a.same u, belU h.be u (by simp)⟩
/-- What stands between the writings. -/
structure BkS (w wr : World) (im : ByteArray) (sl : Value) (B q p bb cb : Nat) (s : FS) : Prop where
  ok : s.Ok
  nn : s.n.length = 1 + B
  st : s.Still
  fl : Fl 76 wr p bb cb s
  pa : Pa wr q p (1 : Nat) (B : Nat)
  ag : ArgV w wr im sl
structure Apb (w : World) (q p bb cb : Nat) : Prop where
  nq : q ∉ [p, bb, cb]
  lo : ∀ k, k ∈ [q, p, bb, cb] → w.heap.size < k
theorem Apb.le {w : World} {q p bb cb : Nat} (h : Apb w q p bb cb) : ∀ k, k ∈ [q, p, bb, cb] → w.heap.size ≤ k := fun k hk => Nat.le_of_lt (h.lo k hk)
theorem Apb.l3 {w : World} {q p bb cb : Nat} (h : Apb w q p bb cb) : ∀ k, k ∈ [p, bb, cb] → w.heap.size < k := fun k hk => h.lo k (List.mem_cons_of_mem _ hk)
set_option maxHeartbeats 16000000 in
theorem walk (im : ByteArray) (sl : Value) (lo : List OpS) (wim : im.size ≤ maxLen) {v : Value} (l : List ByteArray) (w : World) (hsc : ScriptS w sl lo) (hl : Strs w v l) :
    Calls Try.prog 5 #[.agg #[.string im, sl], v] w fun e w' => e = .returned (.bool true) ∧ Below w.heap.size w w' := by
  obtain ⟨ao, cap, rfl, hlen, hcells⟩ := hl
  unfold maxLen at hlen
  have HCELLS := Box.mk hcells; clear hcells
  obtain ⟨ao2, cap2, rfl, hmax, hops⟩ := hsc
  have hlen2 : lo.length ≤ 9223372036854775807 := by unfold maxLen at hmax; omega
  have hops := Box.mk hops
  have LD := Box.mk (fun w => laid_any im wim w)
  unfold LaidAt at LD
  have ok0 := lfs_ok im; have st0 := lfs_still im; have n0 := lfs_two im
  generalize lfs im = F0 at LD ok0 st0 n0
  obtain ⟨B, hB, hB2⟩ : ∃ B : Nat, ((F0.n.length : Int) - 1 = (B : Int)) ∧ F0.n.length = 1 + B := ⟨F0.n.length - 1, by omega, by omega⟩
  rw [hB] at LD
  have BN := Box.mk (show 1 ≤ B ∧ B ≤ 7 ∧ In (1 + B) (1 : Nat) (B : Nat) from ⟨by omega, by omega, ⟨by omega, by omega, by omega, by omega⟩⟩)
  have K0 := Box.mk (show F0.Ok ∧ F0.n.length = 1 + B ∧ F0.Still from ⟨ok0, hB2, st0⟩)
  have hB7 : (B : Int) ≤ 7 := by omega
  have A0 := Box.mk (ArgV.start w im (.slice ao2 lo.length cap2))
  clear hB hB2 n0 ok0 st0 wim hmax
  go_enter Try.func5, Try.ntmps5
  go_upto_region 1 with (fail)
  generalize w.alloc (.cells #[.string im, .slice ao2 lo.length cap2] 40) = w0 at A0 ⊢
  obtain ⟨a0, a1⟩ := A0.out.cells
  go_wp2_with fail
  refine (LD.out _).mono ?_
  rintro e W1 ⟨q, p, bb, cb, q', p', bb', cb', rfl, pd, ap, nq, lo1, b1⟩
  have hw0 : w.heap.size < w0.heap.size := (Array.getElem?_eq_some_iff.1 A0.out.g).1
  have AP := Box.mk (show Apb w q p bb cb from ⟨nq, fun k hk => by have := lo1 k hk; omega⟩)
  have ST0 := Box.mk (show BkS w W1 im (.slice ao2 lo.length cap2) B q p bb cb F0 from ⟨K0.out.1, K0.out.2.1, K0.out.2.2, pd.f, pd.pa, A0.out.upd (Upd.of_below (S := []) b1) (by simp)⟩)
  clear pd ap nq lo1 b1 LD a0 a1 K0 A0 hw0
  go_upto_block 0 with (fail)
  go_cut [] (fun wx => ∃ s, BkS w wx im (.slice ao2 lo.length cap2) B q p bb cb s)
  case first =>
    go_wp2_with fail
    go_loopw [9] (fun i wr => ∃ (j : Nat) (s : FS), j ≤ lo.length ∧ i = .int .i64 j ∧ BkS w wr im (.slice ao2 lo.length cap2) B q p bb cb s) (fun i _ => lo.length - (intOf i).toNat)
    case atStart => exact ⟨0, F0, Nat.zero_le _, rfl, ST0.out⟩
    case round =>
      clear ST0
      obtain ⟨j, s, hj, rfl, st⟩ := hrel
      have ST := Box.mk st
      obtain ⟨e0, e1⟩ := st.ag.cells
      by_cases hlt : j < lo.length
      · by_cases h20 : j < 20
        · have hltI : (j : Int) < (lo.length : Int) := by omega
          have h20I : (j : Int) < 20 := by omega
          obtain ⟨o, ho⟩ : ∃ o, lo[j]? = some o := ⟨_, List.getElem?_eq_getElem hlt⟩
          obtain ⟨a, rfl, HO⟩ := hops.out j o ho
          have hox : OpAtS wr (a.add (j * 5)) o := HO.below st.ag.b HO.lt
          obtain ⟨q0, q1, q2, q3, q4⟩ := hox.flat
          obtain ⟨wk, hwk⟩ : ∃ wk, wk = wr.alloc (obS o) := ⟨_, rfl⟩
          have uk : Upd [] wr wk := by rw [hwk]; exact (Upd.refl [] wr).alloc _
          have SK := Box.mk (show BkS w wk im (.slice (some a) lo.length cap2) B q p bb cb s from ⟨st.ok, st.nn, st.st, st.fl.upd uk (by simp) (by simp) (by simp), st.pa.upd uk (by simp), st.ag.upd uk (by simp)⟩)
          have OX := Box.mk HO.ok
          have OB : Box (wk.heap[wr.heap.size]? = some (obS o)) := ⟨by rw [hwk]; exact heap_alloc_new _ _⟩
          have KN : Box (∀ k, k ∈ [q, p, bb, cb] → k < wr.heap.size) := ⟨by
            have h1 := st.fl.lt; have h2 := st.pa.lt
            intro k hk; simp only [List.mem_cons, List.not_mem_nil, or_false] at hk; rcases hk with rfl | rfl | rfl | rfl <;> omega⟩
          have WKZ : Box (w.heap.size < wr.heap.size) := ⟨(Array.getElem?_eq_some_iff.1 st.ag.g).1⟩
          obtain ⟨z0, z1, z2, z3, z4⟩ := obS_cells OB.out
          have HLT := Box.mk hlt
          clear st hox HO ST uk hlt h20
          unfold obS at hwk
          go_upto_region 8 with (fail)
          rw [← hwk]
          clear hwk q0 q1 q2 q3 q4 e0 e1
          go_cut [] (fun wx => ∃ s1 : FS, s1.Ok ∧ s1.n.length = 1 + B ∧ Fl 76 wx p bb cb s1 ∧ Upd [p, bb, cb] wk wx)
          case first =>
            have AR := Box.mk (fun n (hn : n ≤ 9223372036854775807) => arm_any p bb cb s n o.a o.m wk SK.out.fl OX.out.a)
            go_wp2_with fail
            all_goals
              refine (AR.out _ (by have := OX.out.n; omega)).mono ?_
              rintro e w5 ⟨rfl, hf, hu⟩
              have HF5 := Box.mk hf; have HU5 := Box.mk (hu.mono (T := [p, bb, cb]) (by simp)); clear hf hu
              go_wp2_with fail
              go_meet
              exact ⟨_, FS.arm_ok SK.out.ok _ _ _ (by have := OX.out.n; omega) OX.out.a.2, (congrArg List.length (arm_n s _ o.a o.m)).trans SK.out.nn, HF5.out, HU5.out⟩
          case rest =>
            obtain ⟨s1, ok1, n1, f1, u1⟩ := hcut
            have F1 := Box.mk f1; have OK1 := Box.mk ok1; have N1 := Box.mk n1
            have P1 := Box.mk (SK.out.pa.upd u1 AP.out.nq); have AG1 := Box.mk (SK.out.ag.upd u1 AP.out.l3); have OB1 := Box.mk (keep_obS OB.out u1 (fun h => by have := KN.out _ (List.mem_cons_of_mem _ h); omega)); have Z1 := Box.mk u1.size
            have KWK := Box.mk (show wr.heap.size < wk.heap.size from (Array.getElem?_eq_some_iff.1 OB.out).1)
            clear f1 ok1 n1 u1 z0 z1 z2 z3 z4 SK OB
            go_wp2_with fail
            refine (begin_any q _).mono ?_
            rintro e w6 ⟨rfl, sw, b6⟩
            have hwz := AG1.out.b.size
            have Q6 := Box.mk (SlS.begin (B0 := w.heap.size) F1.out P1.out AP.out.nq AP.out.le hwz sw b6)
            have AG6 := Box.mk (AG1.out.upd (Upd.of_below (S := []) b6) (by simp)); have OB6 := Box.mk (keep_obS OB1.out (Upd.of_below (S := []) b6) (by simp))
            have KG : Box (wr.heap.size < wc.heap.size ∧ w.heap.size < wc.heap.size) := ⟨by have := Z1.out; have := KWK.out; have := WKZ.out; omega⟩
            clear sw b6 F1 P1 AG1 OB1 hwz KWK Z1
            generalize wc.heap.size = g at Q6 KG ⊢
            obtain ⟨z0, z1, z2, z3, z4⟩ := obS_cells OB6.out
            have GS : Box (∀ k, k ∈ [g, p, bb, cb] → w.heap.size < k) := ⟨fun k hk => by
              rcases List.mem_cons.1 hk with rfl | hk
              · exact KG.out.2
              · exact AP.out.l3 k hk⟩
            obtain ⟨pg, hpg⟩ := Q6.out.sw
            have WR := Box.mk (swrite_any g q p bb cb (1 : Nat) (B : Nat) s1 WS.new pg o.s _ Q6.out.fl OK1.out Q6.out.pa (by rw [N1.out]; exact BN.out.2.2) hpg (WS.new_ok (by omega)) Q6.out.sp (by have := OX.out.s; unfold maxLen at this; omega))
            obtain ⟨o2, n2, w2⟩ := WS.write_ok (F := (1 : Nat)) (B := (B : Nat)) OK1.out (WS.new_ok (by omega)) o.s.data.toList
            generalize WS.new.write (1 : Nat) (B : Nat) s1 o.s.data.toList = r at WR o2 n2 w2
            obtain ⟨s2, ws2, e2⟩ := r
            dsimp only at WR o2 n2 w2
            have O2 := Box.mk (show s2.Ok ∧ s2.n.length = 1 + B ∧ ws2.Ok (B : Nat) from ⟨o2, n2.trans N1.out, w2⟩)
            clear o2 n2 w2 hpg
            go_wp2_with fail
            refine WR.out.mono ?_
            rintro e w7 ⟨rfl, f7, s7, u7⟩
            have Q7 := Box.mk (Q6.out.next f7 s7 u7); have AG7 := Box.mk (AG6.out.upd u7 GS.out)
            clear f7 s7 u7 Q6 AG6 OB6 WR z0 z1 z2 z3 z4
            obtain ⟨pg, hpg⟩ := Q7.out.sw
            have EN := Box.mk (send_any g q p bb cb (1 : Nat) (B : Nat) s2 ws2 pg _ Q7.out.fl O2.out.1 Q7.out.pa (by rw [O2.out.2.1]; exact BN.out.2.2) hpg O2.out.2.2 Q7.out.sp)
            obtain ⟨o3, n3, w3⟩ := WS.fin_ok (F := (1 : Nat)) (B := (B : Nat)) O2.out.1 O2.out.2.2
            generalize WS.fin (1 : Nat) (B : Nat) s2 ws2 = r at EN o3 n3 w3
            obtain ⟨s3, ws3, e3⟩ := r
            dsimp only at EN o3 n3 w3
            have O3 := Box.mk (show s3.Ok ∧ s3.n.length = 1 + B from ⟨o3, n3.trans O2.out.2.1⟩)
            clear o3 n3 w3 hpg
            go_wp2_with fail
            refine EN.out.mono ?_
            rintro e w8 ⟨rfl, f7, s7, u7⟩
            have Q8 := Box.mk (Q7.out.next f7 s7 u7); have AG8 := Box.mk (AG7.out.upd u7 GS.out)
            clear f7 s7 u7 Q7 AG7 EN
            go_wp2_with fail
            refine (revive_any p bb cb s3 _ Q8.out.fl).mono ?_
            rintro e w9 ⟨rfl, hf, hu⟩
            have ST9 := Box.mk (show BkS w w9 im (.slice (some a) lo.length cap2) B q p bb cb s3.back from ⟨back_ok O3.out.1, (congrArg List.length (back_out s3 0 0).2).trans O3.out.2, back_still s3, hf, Q8.out.pa.upd (hu.mono (T := [p, bb, cb]) (by simp)) AP.out.nq, AG8.out.upd (hu.mono (T := [p, bb, cb]) (by simp)) AP.out.l3⟩)
            clear hf hu Q8 AG8
            go_wp2_with fail
            exact ⟨⟨j + 1, _, by have := HLT.out; omega, by go_num, ST9.out⟩, by have := HLT.out; simp [intOf]; omega⟩
        · have h20I : ¬ (j : Int) < 20 := by omega
          have hltI : (j : Int) < (lo.length : Int) := by omega
          clear st
          go_wp2_with fail
          go_meet
          exact ⟨s, ST.out⟩
      · have hltI : ¬ (j : Int) < (lo.length : Int) := by omega
        clear st
        go_wp2_with fail
        go_meet
        exact ⟨s, ST.out⟩
  case rest =>
    obtain ⟨F1, st⟩ := hcut
    have CU0 := Box.mk (CutR.start st.st st.ok 1 B)
    have OK0 := Box.mk st.ok
    have BF := Box.mk (show In F1.n.length (1 : Nat) (B : Nat) ∧ 1 + B ≤ F1.n.length from ⟨by rw [st.nn]; exact BN.out.2.2, by rw [st.nn]; exact Nat.le_refl _⟩)
    have FL := Box.mk st.fl; have PA := Box.mk st.pa; have BB := Box.mk st.ag.b
    clear st ST0
    go_wp2_with fail
    refine (begin_any q _).mono ?_
    rintro e w1 ⟨rfl, sw, b1⟩
    have T0 := Box.mk (show Own1 w w1 B wc.heap.size q p bb cb F1 WS.new from ⟨SlS.begin FL.out PA.out AP.out.nq AP.out.le BB.out.size sw b1, belU BB.out (Upd.of_below (S := []) b1) (by simp)⟩)
    clear sw b1 FL PA BB AP
    generalize wc.heap.size = g at T0 ⊢
    go_upto_block 2 with (fail)
    go_cut [13] (fun al wx => ∃ (A : ByteArray) (s1 : FS) (ws1 : WS), al = .string A ∧ CutR 1 B F1 s1 ws1 A.data.toList ∧ s1.Ok ∧ s1.n.length = F1.n.length ∧ Own1 w wx B g q p bb cb s1 ws1)
    case first =>
      go_wp2_with fail
      go_loopw [13, 14] (fun al i wr => ∃ (j : Nat) (A : ByteArray) (s1 : FS) (ws1 : WS), j ≤ l.length ∧ i = .int .i64 j ∧ al = .string A ∧ CutR 1 B F1 s1 ws1 A.data.toList ∧ s1.Ok ∧ s1.n.length = F1.n.length ∧ Own1 w wr B g q p bb cb s1 ws1) (fun _ i _ => l.length - (intOf i).toNat)
      case atStart => exact ⟨0, ⟨#[]⟩, F1, WS.new, Nat.zero_le _, rfl, rfl, CU0.out, OK0.out, rfl, T0.out⟩
      case round =>
        clear T0
        obtain ⟨j, A, s1, ws1, hj, rfl, rfl, hcut, ok1, n1, ht⟩ := hrel
        have CU := Box.mk hcut; have OK1 := Box.mk ok1; have N1 := Box.mk n1; have T := Box.mk ht
        have hAl := hcut.le
        have hAs : A.data.toList.length = A.size := by simp
        clear hcut ok1 n1 ht
        by_cases hlt : j < l.length
        · by_cases h60 : j < 60
          · have hltI : (j : Int) < (l.length : Int) := by omega
            have h60I : (j : Int) < 60 := by omega
            obtain ⟨pc, hpc⟩ : ∃ s, l[j]? = some s := ⟨_, List.getElem?_eq_getElem hlt⟩
            obtain ⟨a, rfl, ha, hc, hsm⟩ := HCELLS.out j pc hpc
            have hcell : ∀ w', Below w.heap.size w w' → w'.cell? (a.add j) = some (.string pc) := fun w' hb => by
              have hq : (a.add j).block = a.block := by unfold Addr.add; split <;> rfl
              exact (hb.cell (by rw [hq]; exact ha)).trans hc
            have c0 := hcell _ T.out.be
            have HCELL := Box.mk hcell
            have SZ := Box.mk (fun n => size_any q p (1 : Nat) (B : Nat) _ (wr.drewN n) (T.out.same ((Upd.refl [] wr).drewN n)).a.pa BF.out.1)
            have hwz : IntKind.i64.wrap (512 * (B : Int) - (A.size : Int)) = 512 * (B : Int) - (A.size : Int) := by rw [IntKind.wrap_i64]; omega
            unfold maxLen at hsm
            by_cases hfit : A.size + pc.size ≤ 512 * B
            · have hfI : decide (512 * (B : Int) - (A.size : Int) < (pc.size : Int)) = false := by rw [decide_eq_false_iff_not]; omega
              have hps : pc.data.toList.length = pc.size := by simp
              obtain ⟨x1, x2⟩ := CU.out.step BF.out.2 pc.data.toList (by omega)
              have WR := Box.mk (fun pg w hf h hw => swrite_any g q p bb cb (1 : Nat) (B : Nat) s1 ws1 pg pc w hf OK1.out h (by rw [N1.out]; exact BF.out.1) hw (by rw [CU.out.w]; exact ⟨by dsimp only; omega, by dsimp only; omega, by dsimp only; omega, fun _ => ⟨rfl, fun _ => rfl⟩⟩) T.out.a.sp (by omega))
              have OK2 := Box.mk (WS.write_ok (F := (1 : Nat)) (B := (B : Nat)) OK1.out (ws := ws1) (by rw [CU.out.w]; exact ⟨by dsimp only; omega, by dsimp only; omega, by dsimp only; omega, fun _ => ⟨rfl, fun _ => rfl⟩⟩) pc.data.toList)
              generalize ws1.write (1 : Nat) (B : Nat) s1 pc.data.toList = r at x1 x2 WR OK2
              obtain ⟨r1, r2, r3⟩ := r
              dsimp only at x1 x2 WR OK2
              subst x1
              have CU2 := Box.mk x2
              have HAP : Box ((A ++ pc).data.toList = A.data.toList ++ pc.data.toList) := ⟨by rw [ByteArray.data_append]; simp⟩
              have hsum : ¬ 9223372036854775807 < A.size + pc.size := by omega
              clear x2 hfit hAl hAs hps hcell hc hsm hpc ha hlt h60
              go_upto_region 10 with (fail)
              go_quiet ((go_at_call 9; exact quiet_calls (SZ.out _)))
              go_wp2_with fail
              have T2 := Box.mk (T.out.same ((Upd.refl [] wr).drewN nq))
              have c1 := HCELL.out _ T2.out.be
              clear SZ hwz hfI c0
              generalize wr.drewN nq = w5 at T2 c1 ⊢
              go_wp2_with fail
              obtain ⟨pg, hpg⟩ := T2.out.a.sw
              refine (WR.out pg _ T2.out.a.fl T2.out.a.pa hpg).mono ?_
              rintro e w6 ⟨rfl, f6, s6, u6⟩
              have T3 := Box.mk (T2.out.one f6 s6 u6)
              have c2 := HCELL.out _ T3.out.be
              clear f6 s6 u6 hpg c1 T2 WR
              go_wp2_with fail
              exact ⟨⟨j + 1, A ++ pc, r1, r2, by omega, by go_num, rfl, by rw [HAP.out]; exact CU2.out, OK2.out.1, OK2.out.2.1.trans N1.out, T3.out⟩, by simp [intOf]; omega⟩
            · have hfI : decide (512 * (B : Int) - (A.size : Int) < (pc.size : Int)) = true := by rw [decide_eq_true_eq]; omega
              clear hfit hAl hAs hcell hc hsm hpc ha hlt h60
              go_upto_region 10 with (fail)
              go_quiet ((go_at_call 9; exact quiet_calls (SZ.out _)))
              go_wp2_with fail
              go_meet
              exact ⟨A, s1, ws1, rfl, CU.out, OK1.out, N1.out, T.out.same ((Upd.refl [] wr).drewN nq)⟩
          · have h60I : ¬ (j : Int) < 60 := by omega
            have hltI : (j : Int) < (l.length : Int) := by omega
            clear hAl hAs
            go_wp2_with fail
            go_meet
            exact ⟨A, s1, ws1, rfl, CU.out, OK1.out, N1.out, T.out⟩
        · have hltI : ¬ (j : Int) < (l.length : Int) := by omega
          clear hAl hAs
          go_wp2_with fail
          go_meet
          exact ⟨A, s1, ws1, rfl, CU.out, OK1.out, N1.out, T.out⟩
    case rest =>
      obtain ⟨A, s1, ws1, rfl, hcut, ok1, n1, ht⟩ := hcut
      have hAl := hcut.le
      have hAs : A.data.toList.length = A.size := by simp
      have T := Box.mk ht
      have in1 : In s1.n.length (1 : Nat) (B : Nat) := by rw [n1]; exact BF.out.1
      obtain ⟨pg, hpg⟩ := ht.a.sw
      have hsz := hpg.at_
      rw [show ws1.came = A.size by rw [hcut.w, hAs]] at hsz
      have HSZ := Box.mk hsz
      have E1 := Box.mk (send_any g q p bb cb (1 : Nat) (B : Nat) s1 ws1 pg _ ht.a.fl ok1 ht.a.pa in1 hpg hcut.wok.1 ht.a.sp)
      obtain ⟨y1, y2⟩ := hcut.fin BF.out.2
      obtain ⟨o2, n2, _⟩ := WS.fin_ok (F := (1 : Nat)) (B := (B : Nat)) ok1 hcut.wok.1
      generalize WS.fin (1 : Nat) (B : Nat) s1 ws1 = r at y1 y2 E1 o2 n2
      obtain ⟨r1, r2, r3⟩ := r
      dsimp only at y1 y2 E1 o2 n2
      subst y1
      have nn2 : 1 + B ≤ r1.n.length := by rw [n2, n1]; exact BF.out.2
      have in2 : In r1.n.length (1 : Nat) (B : Nat) := by rw [n2]; exact in1
      have RD := Box.mk (fun w h hp => sread_any q p bb cb (1 : Nat) (B : Nat) r1 (A.size : Nat) w h o2 hp in2 (by omega))
      rw [y2.sread nn2] at RD
      have CK := Box.mk (fun w h hp => scheck_any q p bb cb (1 : Nat) (B : Nat) r1 (A.size : Nat) (sumS 0 A.data.toList) w h o2 hp in2 (by omega))
      rw [y2.check nn2] at CK
      have ON := Box.mk (fun w => oneB_any 0 (.inl rfl) A (by omega) w)
      dsimp only at RD
      generalize sumS 0 A.data.toList = TT at CK ON
      have hq1 : (A.toList == A.toList) = true := by simp
      have hq2 : ((A.size : Int) != (A.size : Int)) = false := by simp
      clear hcut ok1 n1 ht in1 hpg hsz y2 o2 n2 nn2 in2 hAl hAs CU0 OK0 BF BN
      go_wp2_with fail
      refine (ssize_any g q pg A.size _ _ _ HSZ.out).mono ?_
      rintro e w7 ⟨rfl, rfl⟩
      go_wp2_with fail
      refine E1.out.mono ?_
      rintro e w8 ⟨rfl, f6, s6, u6⟩
      have T2 := Box.mk (T.out.one f6 s6 u6)
      clear f6 s6 u6 E1 T HSZ
      go_wp2_with fail
      refine (RD.out _ T2.out.a.fl T2.out.a.pa).mono ?_
      rintro e w7 ⟨rfl, rfl⟩
      go_wp2_with fail
      refine (ON.out _).mono ?_
      rintro e w9 ⟨rfl, b9⟩
      have T3 := Box.mk (T2.out.same (Upd.of_below b9))
      clear b9 T2
      go_wp2_with fail
      refine (CK.out _ T3.out.a.fl T3.out.a.pa).mono ?_
      rintro e w10 ⟨rfl, b10⟩
      have B10 := Box.mk (belU T3.out.be (Upd.of_below (S := []) b10) (by simp))
      clear b10 T3
      go_wp2_with fail
      refine (sfixed_any _).mono ?_
      rintro e w11 ⟨rfl, b11⟩
      have B11 := Box.mk (belU B10.out (Upd.of_below (S := []) b11) (by simp))
      clear b11
      go_wp2_with fail
      go_ret
      exact ⟨rfl, B11.out⟩
theorem own : ownKnob Try.prog.godebug = none := by kernel_rfl
theorem laidOut : laidOutB Try.prog = true := by kernel_rfl
set_option maxRecDepth 100000 in
theorem lifted (os : Os) (started : os.Started) (H : Type) (enc : TypeId × Value → H) :
    ReturnsInHanded {} Try.checked os 5 .any (Rows.slotBackSpec.pre6 enc Try.prog Try.f5 Rows.slotBackRow.domain false) (Rows.slotBackSpec.post enc Try.prog Try.f5 false true false false) := by
  refine returnsInHanded_of_change (C := Try.checked) own started (by kernel_rfl) Try.func5
    (ChangeSpec.witness6 (enc := enc) (C := Try.checked) false ⟨#[], #[.agg #[.string ⟨#[]⟩, .slice none 0 0], .slice none 0 0], []⟩ 8 (by kernel_rfl) (by kernel_rfl) (by kernel_rfl) (by kernel_rfl)) ?_
  intro W base args ds gs before hval0 hW hcnd _
  have hval : ∀ (j : Nat) t v, Try.f5.params[j]? = some t → args[j]? = some v → Value.okWide Try.prog W .any base t v := hval0
  have hW' := hW
  obtain ⟨p, q, hA0, hV, rfl, hfz, hnd⟩ := hW
  have hA : DataW.TrodAll enc Try.prog W 0 (fun _ => true) true Try.f5.params.toList args.toList ds p := hA0
  rw [Try.params5] at hA hval
  obtain ⟨v0, vs0, d0, ds0, p0, q0, hargs, rfl, rfl, h0, r0⟩ := trodAll_cons hA
  obtain ⟨v1, vs1, d1, ds1, p1, q1, rfl, rfl, rfl, h1, r1⟩ := trodAll_cons r0
  obtain ⟨rfl, rfl, rfl⟩ := trodAll_nil r1
  obtain rfl : args = #[v0, v1] := by cases args; simp_all
  obtain ⟨rfl, rfl⟩ := trodVars_none hV
  obtain ⟨im0, sl0, l0, rfl, wi0, hsc0⟩ := open_vw (hval 0 40 v0 rfl rfl) h0
  obtain ⟨l1, hs1⟩ := open_sl (hval 1 22 v1 rfl rfl) h1
  clear hA0 hval0
  refine (walk im0 sl0 l0 wi0 l1 W hsc0 hs1).mono fun e W' ⟨he, bel⟩ => ?_
  subst he
  exact ⟨_, rfl, _, _, _, [], _, [], hW', trodAll_mk1 (shut_bool Try.underlying4 _), (trodAll_cons_mk (Below.trod laidOut (by kernel_rfl) (of_decide_eq_true (by kernel_rfl)) h0 bel (by obtain ⟨f, hf⟩ := h0; exact DataW.trod_lt _ _ _ _ hf)) (trodAll_cons_mk (Below.trod laidOut (by kernel_rfl) (of_decide_eq_true (by kernel_rfl)) h1 bel (by obtain ⟨f, hf⟩ := h1; exact DataW.trod_lt _ _ _ _ hf)) trodAll_mk0)), rfl, bel.frame _, fun h => by cases h⟩

theorem proved : Rows.SlotBackSaid :=
  OpenClaim.holds_of_wide 5 Try.f5 rfl rfl rfl rfl rfl rfl rfl ⟨rfl, rfl, rfl, rfl, rfl⟩ rfl rfl rfl rfl rfl (by kernel_rfl) Try.func5 (by kernel_rfl)
    (of_decide_eq_true (by kernel_rfl)) (by unfold Func.isWrapper; first | (rw [if_pos (by decide +kernel)]; kernel_rfl) | (rw [if_neg (by decide +kernel)]; exact ⟨rfl, rfl⟩))
    (fun os started H enc _ => lifted os started H enc)
#print axioms proved
end Go.Proofs.Ytopiopomioglfaa.slotBack
