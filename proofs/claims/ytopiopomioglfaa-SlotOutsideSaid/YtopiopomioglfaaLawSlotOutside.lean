/- Whatever image and pieces come in, the call of SlotOutside returns true and leaves its arguments as they were. No condition. -/
import Derived.Test.YtopiopomioglfaaM16
import Derived.Test.YtopiopomioglfaaM15
import Derived.Deep.DeepCutAuto
import Derived.Deep.CutBlock
import Derived.IntWalk
import Derived.ProofKit
import Derived.OpenShut
import Derived.ShutString
import Derived.ChangeOld
namespace Go.Proofs.Ytopiopomioglfaa.slotOutside
set_option maxRecDepth 100000
open Go Go.RowKit Go.ChangeShapes Go.WideShapes Go.ChangeAt Sha
open Go.ChangeMaps (open_string shut_string)
set_option linter.unusedVariables false

theorem open_sl {H : Type} {enc : TypeId × Value → H} {w : World} {base : Nat} {spare : Nat → Bool} {held : Bool} {r : Reach} {b0 : Nat} {v : Value} {d : DataW H} {p : List MemPlace}
    (hv : Value.okWide Try.prog w r b0 22 v) (h : DataW.Trod enc Try.prog w base spare held 22 v d p) : ∃ l, Strs w v l := open_strs Try.underlying22 Try.underlying9 (by kernel_rfl) hv h
/-- A writer of the call's own. -/
structure Own1 (w wr : World) (B g q p bb cb : Nat) (s : FS) (ws : WS) : Prop where
  a : SlS w.heap.size wr (1 : Nat) B g q p bb cb s ws
  be : Below w.heap.size w wr
theorem Own1.one {w wr w1 : World} {B g q p bb cb : Nat} {s s' : FS} {ws ws' : WS} (h : Own1 w wr B g q p bb cb s ws) (hf : Fl 76 w1 p bb cb s') (hw : ∃ pg, Sw w1 g q ws' pg) (u : Upd [g, p, bb, cb] wr w1) : Own1 w w1 B g q p bb cb s' ws' :=
  ⟨h.a.next hf hw u, belU h.be u h.a.mem⟩
theorem Own1.same {w wr w1 : World} {B g q p bb cb : Nat} {s : FS} {ws : WS} (h : Own1 w wr B g q p bb cb s ws) (u : Upd [] wr w1) : Own1 w w1 B g q p bb cb s ws :=
  ⟨h.a.same u, belU h.be u (by simp)⟩
set_option maxHeartbeats 8000000 in
theorem walk (s : ByteArray) (wsz : s.size ≤ maxLen) {v : Value} (l : List ByteArray) (w : World) (hl : Strs w v l) :
    Calls Try.prog 4 #[.string s, v] w fun e w' => e = .returned (.bool true) ∧ Below w.heap.size w w' := by
  obtain ⟨ao, cap, rfl, hlen, hcells⟩ := hl
  unfold maxLen at hlen
  have HCELLS := Box.mk hcells; clear hcells
  have LD := Box.mk (fun w => laid_any s wsz w)
  unfold LaidAt at LD
  have ok0 := lfs_ok s; have st0 := lfs_still s; have n0 := lfs_two s
  generalize lfs s = F0 at LD ok0 st0 n0
  obtain ⟨B, hB, hB2⟩ : ∃ B : Nat, ((F0.n.length : Int) - 1 = (B : Int)) ∧ 1 + B = F0.n.length := ⟨F0.n.length - 1, by omega, by omega⟩
  rw [hB] at LD
  have BN := Box.mk (show 1 ≤ B ∧ B ≤ 7 ∧ 1 + B ≤ F0.n.length ∧ In F0.n.length (1 : Nat) (B : Nat) from ⟨by omega, by omega, by omega, ⟨by omega, by omega, by omega, by omega⟩⟩)
  have CU0 := Box.mk (CutR.start st0 ok0 1 B)
  have OK0 := Box.mk ok0; have LEN0 := Box.mk (show F0.b.length = 512 + 512 * B by have := ok0.len; omega)
  have IM := Box.mk (fun p bb cb w h => image_any p bb cb F0 w h)
  obtain ⟨X, hX⟩ : ∃ X : ByteArray, X = ⟨F0.b.toArray⟩ := ⟨_, rfl⟩
  rw [← hX] at IM
  have HX := Box.mk hX
  have hB7 : (B : Int) ≤ 7 := by omega
  clear hB hB2 n0 ok0 st0 wsz hX
  go_enter Try.func4, Try.ntmps4
  go_wp2_with fail
  refine (LD.out _).mono ?_
  rintro e W1 ⟨q, p, bb, cb, q', p', bb', cb', rfl, pd, ap, nq, lo, b1⟩
  have P1 := Box.mk (show Fl 76 W1 p bb cb F0 ∧ Pa W1 q p (1 : Nat) (B : Nat) from ⟨pd.f, pd.pa⟩)
  have LO := Box.mk lo; have NQ := Box.mk nq; have B1 := Box.mk b1
  clear pd ap nq lo b1 LD
  go_wp2_with fail
  refine (IM.out p bb cb _ P1.out.1).mono ?_
  rintro e W2 ⟨rfl, rfl⟩
  go_wp2_with fail
  refine (begin_any q _).mono ?_
  rintro e W3 ⟨rfl, sw, b3⟩
  have T4 := Box.mk (show Own1 w W3 B W1.heap.size q p bb cb F0 WS.new from ⟨SlS.begin P1.out.1 P1.out.2 NQ.out LO.out B1.out.size sw b3, belU B1.out (Upd.of_below (S := []) b3) (by simp)⟩)
  clear sw b3 P1 B1 LO NQ
  generalize W1.heap.size = g at T4 ⊢
  go_upto_block 0 with (fail)
  go_cut [11] (fun nv wx => ∃ (A : List UInt8) (s1 : FS) (ws1 wsx : WS), nv = .int .i64 (A.length : Nat) ∧ CutR 1 B F0 s1 ws1 A ∧ (wsx = ws1 ∨ wsx = { ws1 with e := 241 }) ∧ s1.Ok ∧ s1.n.length = F0.n.length ∧ Own1 w wx B g q p bb cb s1 wsx)
  case first =>
    go_wp2_with fail
    go_loopw [11, 12] (fun nv i wr => ∃ (j n : Nat) (A : List UInt8) (s1 : FS) (ws1 : WS), j ≤ l.length ∧ i = .int .i64 j ∧ nv = .int .i64 (n : Nat) ∧ n = A.length ∧ CutR 1 B F0 s1 ws1 A ∧ s1.Ok ∧ s1.n.length = F0.n.length ∧ Own1 w wr B g q p bb cb s1 ws1) (fun _ i _ => l.length - (intOf i).toNat)
    case atStart => exact ⟨0, 0, [], F0, WS.new, Nat.zero_le _, rfl, rfl, rfl, CU0.out, OK0.out, rfl, T4.out⟩
    case round =>
      clear T4
      obtain ⟨j, n, A, s1, ws1, hj, rfl, rfl, hn, hcut, ok1, n1, ht⟩ := hrel
      have CU := Box.mk hcut; have OK1 := Box.mk ok1; have N1 := Box.mk n1; have T := Box.mk ht
      have hAl := hcut.le
      have HNA := Box.mk hn
      have hnb : n ≤ 512 * B := by omega
      clear hcut ok1 n1 ht hn
      by_cases hlt : j < l.length
      · by_cases h60 : j < 60
        · have hltI : (j : Int) < (l.length : Int) := by omega
          have h60I : (j : Int) < 60 := by omega
          obtain ⟨pc, hpc⟩ : ∃ s, l[j]? = some s := ⟨_, List.getElem?_eq_getElem hlt⟩
          obtain ⟨a, rfl, ha, hc, hsm⟩ := HCELLS.out j pc hpc
          have hcell : ∀ w', Below w.heap.size w w' → w'.cell? (a.add j) = some (.string pc) := fun w' hb => by
            have hq : (a.add j).block = a.block := by unfold Addr.add; split <;> rfl
            exact (hb.cell (by rw [hq]; exact ha)).trans hc
          have c0 := hcell _ T.out.be
          have HCELL := Box.mk hcell
          unfold maxLen at hsm
          have hps : pc.data.toList.length = pc.size := by simp
          have WR := Box.mk (fun pg w hf h hw => swrite_any g q p bb cb (1 : Nat) (B : Nat) s1 ws1 pg pc w hf OK1.out h (by rw [N1.out]; exact BN.out.2.2.2) hw CU.out.wok.1 T.out.a.sp (by omega))
          obtain ⟨pg, hpg⟩ := T.out.a.sw
          by_cases hfit : A.length + pc.size ≤ 512 * B
          · obtain ⟨x1, x2⟩ := CU.out.step BN.out.2.2.1 pc.data.toList (by omega)
            have OK2 := Box.mk (WS.write_ok (F := (1 : Nat)) (B := (B : Nat)) OK1.out (ws := ws1) CU.out.wok.1 pc.data.toList)
            generalize ws1.write (1 : Nat) (B : Nat) s1 pc.data.toList = r at x1 x2 WR OK2
            obtain ⟨r1, r2, r3⟩ := r
            dsimp only at x1 x2 WR OK2
            subst x1
            have CU2 := Box.mk x2
            have HLN : Box (n + pc.size = (A ++ pc.data.toList).length) := ⟨by rw [List.length_append, HNA.out, hps]⟩
            have hwn : IntKind.i64.wrap ((n : Int) + (pc.size : Int)) = ((n + pc.size : Nat) : Int) := by rw [IntKind.wrap_i64]; have := HNA.out; omega
            have PG := Box.mk hpg
            clear x2 hfit hAl hps hcell hc hsm hpc ha hlt h60 hpg
            go_wp2_with fail
            refine (WR.out pg _ T.out.a.fl T.out.a.pa PG.out).mono ?_
            rintro e w6 ⟨rfl, f6, s6, u6⟩
            have T3 := Box.mk (T.out.one f6 s6 u6)
            have c2 := HCELL.out _ T3.out.be
            clear f6 s6 u6 c0 T WR
            go_wp2_with fail
            exact ⟨⟨j + 1, n + pc.size, _, r1, r2, by omega, by go_num, rfl, HLN.out, CU2.out, OK2.out.1, OK2.out.2.1.trans N1.out, T3.out⟩, by simp [intOf]; omega⟩
          · rw [CU.out.full pc.data.toList (by omega)] at WR
            dsimp only at WR
            have PG := Box.mk hpg
            clear hfit hAl hps hcell hc hsm hpc ha hlt h60 hpg
            go_wp2_with fail
            refine (WR.out pg _ T.out.a.fl T.out.a.pa PG.out).mono ?_
            rintro e w6 ⟨rfl, f6, s6, u6⟩
            have T3 := Box.mk (T.out.one f6 s6 u6)
            clear f6 s6 u6 c0 T WR
            go_wp2_with fail
            go_meet
            exact ⟨A, s1, ws1, _, by rw [HNA.out], CU.out, .inr rfl, OK1.out, N1.out, T3.out⟩
        · have h60I : ¬ (j : Int) < 60 := by omega
          have hltI : (j : Int) < (l.length : Int) := by omega
          clear hAl
          go_wp2_with fail
          go_meet
          exact ⟨A, s1, ws1, ws1, by rw [HNA.out], CU.out, .inl rfl, OK1.out, N1.out, T.out⟩
      · have hltI : ¬ (j : Int) < (l.length : Int) := by omega
        clear hAl
        go_wp2_with fail
        go_meet
        exact ⟨A, s1, ws1, ws1, by rw [HNA.out], CU.out, .inl rfl, OK1.out, N1.out, T.out⟩
  case rest =>
    obtain ⟨A, s1, ws1, wsx, rfl, hcut, hx, ok1, n1, ht⟩ := hcut
    have hAl := hcut.le
    have T := Box.mk ht
    have in1 : In s1.n.length (1 : Nat) (B : Nat) := by rw [n1]; exact BN.out.2.2.2
    have wx : wsx.Ok (B : Nat) := by rcases hx with rfl | rfl; exact hcut.wok.1; exact hcut.wok.2
    have ou := hcut.outs BN.out.2.2.1 hx
    have E1 := Box.mk (fun pg w hf h hw => send_any g q p bb cb (1 : Nat) (B : Nat) s1 wsx pg w hf ok1 h in1 hw wx ht.a.sp)
    generalize WS.fin (1 : Nat) (B : Nat) s1 wsx = r at ou E1
    obtain ⟨r1, r2, r3⟩ := r
    dsimp only at ou E1
    have J1 := Box.mk (fun w h => image_any p bb cb r1 w h)
    obtain ⟨Y, hY⟩ : ∃ Y : ByteArray, Y = ⟨r1.b.toArray⟩ := ⟨_, rfl⟩
    rw [← hY] at J1
    obtain ⟨n, hn⟩ : ∃ n, n = A.length := ⟨_, rfl⟩
    rw [← hn] at ou hAl ⊢
    obtain ⟨t, ht2⟩ : ∃ t, t = 512 + 512 * ((n + 511) / 512) := ⟨_, rfl⟩
    have hYs : Y.size = 512 + 512 * B := by rw [hY]; show r1.b.toArray.size = _; rw [List.size_toArray, ou.len, LEN0.out]
    have hXs : X.size = 512 + 512 * B := by rw [HX.out]; show F0.b.toArray.size = _; rw [List.size_toArray, LEN0.out]
    obtain ⟨N, hN⟩ : ∃ N, N = 512 + 512 * B := ⟨_, rfl⟩
    rw [← hN] at hYs hXs
    have e1 : Y.extract 0 512 = X.extract 0 512 := by rw [hY, HX.out]; exact bext (fun k _ h => ou.lo k h)
    have e2 : Y.extract t Y.size = X.extract t X.size := by rw [hXs, hYs, hY, HX.out]; exact bext (fun k h _ => ou.hi k (by omega))
    have hq1 : ((Y.extract 0 512).toList == (X.extract 0 512).toList) = true := by rw [e1]; simp
    have hq2 : ((Y.extract t N).toList == (X.extract t N).toList) = true := by rw [hXs, hYs] at e2; rw [e2]; simp
    have hw1 : IntKind.i64.wrap ((n : Int) + 511) = (n : Int) + 511 := by rw [IntKind.wrap_i64]; omega
    have hw2 : IntKind.i64.wrap (512 + ((n : Int) + 511) / 512 * 512) = (t : Int) := by rw [IntKind.wrap_i64]; omega
    have hYI : (Y.size : Int) = (N : Int) := by rw [hYs]
    have hXI : (X.size : Int) = (N : Int) := by rw [hXs]
    have htN : (t : Int) ≤ (N : Int) := by omega
    have hdt : decide ((t : Int) ≤ (N : Int)) = true := by simpa using htN
    have hNN : (512 : Int) ≤ (N : Int) ∧ (N : Int) ≤ 4096 := by have := BN.out; omega
    obtain ⟨hN1, hN2⟩ := hNN
    have hnb : (n : Int) ≤ 3584 := by have := BN.out; omega
    obtain ⟨pg, hpg⟩ := T.out.a.sw
    have PG := Box.mk hpg
    clear hcut hx ok1 n1 ht in1 wx ou hY hn ht2 hN e1 e2 hpg CU0 OK0 LEN0 HX BN IM hAl T4
    go_wp2_with fail
    refine (E1.out pg _ T.out.a.fl T.out.a.pa PG.out).mono ?_
    rintro e w6 ⟨rfl, f6, s6, u6⟩
    have T3 := Box.mk (T.out.one f6 s6 u6)
    clear f6 s6 u6 T E1 PG
    go_wp2_with fail
    refine (J1.out _ T3.out.a.fl).mono ?_
    rintro e w7 ⟨rfl, rfl⟩
    go_wp2_with fail
    go_still_tail 28, (by kernel_rfl)
    change wpList _ _ _ _ _ w6.drew
    go_wp2_with fail
    refine (sfixed_any _).mono ?_
    rintro e w10 ⟨rfl, b10⟩
    have B10 := Box.mk (belU (belU T3.out.be (Upd.refl [] w6).drew (by simp)) (Upd.of_below (S := []) b10) (by simp))
    clear b10
    go_wp2_with fail
    go_ret
    exact ⟨rfl, B10.out⟩
theorem own : ownKnob Try.prog.godebug = none := by kernel_rfl
theorem laidOut : laidOutB Try.prog = true := by kernel_rfl
set_option maxRecDepth 100000 in
theorem lifted (os : Os) (started : os.Started) (H : Type) (enc : TypeId × Value → H) :
    ReturnsInHanded {} Try.checked os 4 .any (Rows.slotOutsideSpec.pre6 enc Try.prog Try.f4 Rows.slotOutsideRow.domain false) (Rows.slotOutsideSpec.post enc Try.prog Try.f4 false true false false) := by
  refine returnsInHanded_of_change (C := Try.checked) own started (by kernel_rfl) Try.func4
    (ChangeSpec.witness6 (enc := enc) (C := Try.checked) false ⟨#[], #[.string ⟨#[]⟩, .slice none 0 0], []⟩ 8 (by kernel_rfl) (by kernel_rfl) (by kernel_rfl) (by kernel_rfl)) ?_
  intro W base args ds gs before hval0 hW hcnd _
  have hval : ∀ (j : Nat) t v, Try.f4.params[j]? = some t → args[j]? = some v → Value.okWide Try.prog W .any base t v := hval0
  have hW' := hW
  obtain ⟨p, q, hA0, hV, rfl, hfz, hnd⟩ := hW
  have hA : DataW.TrodAll enc Try.prog W 0 (fun _ => true) true Try.f4.params.toList args.toList ds p := hA0
  rw [Try.params4] at hA hval
  obtain ⟨v0, vs0, d0, ds0, p0, q0, hargs, rfl, rfl, h0, r0⟩ := trodAll_cons hA
  obtain ⟨v1, vs1, d1, ds1, p1, q1, rfl, rfl, rfl, h1, r1⟩ := trodAll_cons r0
  obtain ⟨rfl, rfl, rfl⟩ := trodAll_nil r1
  obtain rfl : args = #[v0, v1] := by cases args; simp_all
  obtain ⟨rfl, rfl⟩ := trodVars_none hV
  obtain ⟨s0, rfl, rfl, rfl, ws0⟩ := open_string Try.underlying9 (hval 0 9 v0 rfl rfl) h0
  obtain ⟨l1, hs1⟩ := open_sl (hval 1 22 v1 rfl rfl) h1
  clear hA0 hval0
  refine (walk s0 ws0 l1 W hs1).mono fun e W' ⟨he, bel⟩ => ?_
  subst he
  exact ⟨_, rfl, _, _, _, [], _, [], hW', trodAll_mk1 (shut_bool Try.underlying4 _), (trodAll_cons_mk (shut_string Try.underlying9 ws0) (trodAll_cons_mk (Below.trod laidOut (by kernel_rfl) (of_decide_eq_true (by kernel_rfl)) h1 bel (by obtain ⟨f, hf⟩ := h1; exact DataW.trod_lt _ _ _ _ hf)) trodAll_mk0)), rfl, bel.frame _, fun h => by cases h⟩

theorem proved : Rows.SlotOutsideSaid :=
  OpenClaim.holds_of_wide 4 Try.f4 rfl rfl rfl rfl rfl rfl rfl ⟨rfl, rfl, rfl, rfl, rfl⟩ rfl rfl rfl rfl rfl (by kernel_rfl) Try.func4 (by kernel_rfl)
    (of_decide_eq_true (by kernel_rfl)) (by unfold Func.isWrapper; first | (rw [if_pos (by decide +kernel)]; kernel_rfl) | (rw [if_neg (by decide +kernel)]; exact ⟨rfl, rfl⟩))
    (fun os started H enc _ => lifted os started H enc)
#print axioms proved
end Go.Proofs.Ytopiopomioglfaa.slotOutside
