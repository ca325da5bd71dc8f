/- Whatever image and pieces come in, the call of SlotCuts returns true and leaves its arguments as they were. No condition. -/
import Derived.Test.YtopiopomioglfaaM15
import Derived.Deep.DeepCutAuto
import Derived.Deep.CutBlock
import Derived.IntWalk
import Derived.ProofKit
import Derived.OpenShut
import Derived.ShutString
import Derived.ChangeOld
namespace Go.Proofs.Ytopiopomioglfaa.slotCuts
set_option maxRecDepth 100000
open Go Go.RowKit Go.ChangeShapes Go.WideShapes Go.ChangeAt Sha
open Go.ChangeMaps (open_string shut_string)
set_option linter.unusedVariables false

theorem open_sl {H : Type} {enc : TypeId × Value → H} {w : World} {base : Nat} {spare : Nat → Bool} {held : Bool} {r : Reach} {b0 : Nat} {v : Value} {d : DataW H} {p : List MemPlace}
    (hv : Value.okWide Try.prog w r b0 22 v) (h : DataW.Trod enc Try.prog w base spare held 22 v d p) : ∃ l, Strs w v l := open_strs Try.underlying22 Try.underlying9 (by kernel_rfl) hv h
theorem dj {x b : Nat} {l : List Nat} (h1 : b ≤ x) (h2 : ∀ k, k ∈ l → k < b) : x ∉ l := fun h => by have := h2 x h; omega
theorem dj' {x b : Nat} {l : List Nat} (h1 : x < b) (h2 : ∀ k, k ∈ l → b ≤ k) : x ∉ l := fun h => by have := h2 x h; omega
/-- Two writers, apart. -/
structure Two (w wr : World) (B g q p bb cb g2 q2 p2 bb2 cb2 : Nat) (s : FS) (ws : WS) (s2 : FS) (ws2 : WS) : Prop where
  a : SlS w.heap.size wr (1 : Nat) B g q p bb cb s ws
  b : SlS w.heap.size wr (1 : Nat) B g2 q2 p2 bb2 cb2 s2 ws2
  d1 : ∀ k, k ∈ [g2, q2, p2, bb2, cb2] → k ∉ [g, p, bb, cb]
  d2 : ∀ k, k ∈ [g, q, p, bb, cb] → k ∉ [g2, p2, bb2, cb2]
  be : Below w.heap.size w wr
theorem Two.one {w wr w1 : World} {B g q p bb cb g2 q2 p2 bb2 cb2 : Nat} {s s' : FS} {ws ws' : WS} {s2 : FS} {ws2 : WS} (h : Two w wr B g q p bb cb g2 q2 p2 bb2 cb2 s ws s2 ws2) (hf : Fl 76 w1 p bb cb s') (hw : ∃ pg, Sw w1 g q ws' pg) (u : Upd [g, p, bb, cb] wr w1) : Two w w1 B g q p bb cb g2 q2 p2 bb2 cb2 s' ws' s2 ws2 :=
  ⟨h.a.next hf hw u, h.b.keep u h.d1, h.d1, h.d2, belU h.be u h.a.mem⟩
theorem Two.two {w wr w1 : World} {B g q p bb cb g2 q2 p2 bb2 cb2 : Nat} {s : FS} {ws : WS} {s2 s' : FS} {ws2 ws' : WS} (h : Two w wr B g q p bb cb g2 q2 p2 bb2 cb2 s ws s2 ws2) (hf : Fl 76 w1 p2 bb2 cb2 s') (hw : ∃ pg, Sw w1 g2 q2 ws' pg) (u : Upd [g2, p2, bb2, cb2] wr w1) : Two w w1 B g q p bb cb g2 q2 p2 bb2 cb2 s ws s' ws' :=
  ⟨h.a.keep u h.d2, h.b.next hf hw u, h.d1, h.d2, belU h.be u h.b.mem⟩
theorem Two.same {w wr w1 : World} {B g q p bb cb g2 q2 p2 bb2 cb2 : Nat} {s : FS} {ws : WS} {s2 : FS} {ws2 : WS} (h : Two w wr B g q p bb cb g2 q2 p2 bb2 cb2 s ws s2 ws2) (u : Upd [] wr w1) : Two w w1 B g q p bb cb g2 q2 p2 bb2 cb2 s ws s2 ws2 :=
  ⟨h.a.same u, h.b.same u, h.d1, h.d2, belU h.be u (by simp)⟩
set_option maxHeartbeats 8000000 in
theorem walk (s : ByteArray) (wsz : s.size ≤ maxLen) {v : Value} (l : List ByteArray) (w : World) (hl : Strs w v l) :
    Calls Try.prog 3 #[.string s, v] w fun e w' => e = .returned (.bool true) ∧ Below w.heap.size w w' := by
  obtain ⟨ao, cap, rfl, hlen, hcells⟩ := hl
  unfold maxLen at hlen
  have HCELLS := Box.mk hcells; clear hcells
  have LD := Box.mk (fun w => laid_any s wsz w)
  unfold LaidAt at LD
  have ok0 := lfs_ok s; have st0 := lfs_still s; have n0 := lfs_two s
  generalize lfs s = F0 at LD ok0 st0 n0
  obtain ⟨B, hB, hB2⟩ : ∃ B : Nat, ((F0.n.length : Int) - 1 = (B : Int)) ∧ 1 + B = F0.n.length := ⟨F0.n.length - 1, by omega, by omega⟩
  rw [hB] at LD
  have BN := Box.mk (show 1 ≤ B ∧ B ≤ 7 ∧ 1 + B ≤ F0.n.length ∧ In F0.n.length (1 : Nat) (B : Nat) from ⟨by omega, by omega, by omega, ⟨by omega, by omega, by omega, by omega⟩⟩)
  have CU0 := Box.mk (CutR.start st0 ok0 1 B)
  have OK0 := Box.mk ok0; have ST0 := Box.mk st0
  have hB7 : (B : Int) ≤ 7 := by omega
  clear hB hB2 n0 ok0 st0 wsz
  go_enter Try.func3, Try.ntmps3
  go_wp2_with fail
  refine (LD.out _).mono ?_
  rintro e W1 ⟨q, p, bb, cb, q', p', bb', cb', rfl, pd, ap, nq, lo, b1⟩
  have P1 := Box.mk (show Fl 76 W1 p bb cb F0 ∧ Pa W1 q p (1 : Nat) (B : Nat) from ⟨pd.f, pd.pa⟩)
  have LO := Box.mk lo; have NQ := Box.mk nq; have B1 := Box.mk b1
  clear pd ap nq lo b1
  go_wp2_with fail
  refine (LD.out _).mono ?_
  rintro e W2 ⟨q2, p2, bb2, cb2, q2', p2', bb2', cb2', rfl, pd, ap, nq, lo, b2⟩
  have P2 := Box.mk (show Fl 76 W2 p2 bb2 cb2 F0 ∧ Pa W2 q2 p2 (1 : Nat) (B : Nat) from ⟨pd.f, pd.pa⟩)
  have LT1 : Box (∀ k, k ∈ [q, p, bb, cb] → k < W1.heap.size) := ⟨by
    have h1 := P1.out.1.lt; have h2 := P1.out.2.lt
    intro k hk; simp only [List.mem_cons, List.not_mem_nil, or_false] at hk; rcases hk with rfl | rfl | rfl | rfl <;> omega⟩
  have LT2 : Box (∀ k, k ∈ [q2, p2, bb2, cb2] → k < W2.heap.size) := ⟨by
    have h1 := P2.out.1.lt; have h2 := P2.out.2.lt
    intro k hk; simp only [List.mem_cons, List.not_mem_nil, or_false] at hk; rcases hk with rfl | rfl | rfl | rfl <;> omega⟩
  have LO2 := Box.mk lo; have NQ2 := Box.mk nq; have B2 := Box.mk (belU B1.out (Upd.of_below (S := []) b2) (by simp)); have Z12 := Box.mk b2.size
  have LO3 : Box (∀ k, k ∈ [q2, p2, bb2, cb2] → w.heap.size ≤ k) := ⟨fun k hk => Nat.le_trans B1.out.size (lo k hk)⟩
  have P1b := Box.mk (show Fl 76 W2 p bb cb F0 ∧ Pa W2 q p (1 : Nat) (B : Nat) from ⟨P1.out.1.upd (Upd.of_below b2) (S := []) (by simp) (by simp) (by simp), P1.out.2.upd (Upd.of_below b2) (S := []) (by simp)⟩)
  clear pd ap nq lo b2 LD P1 B1
  go_wp2_with fail
  refine (begin_any q _).mono ?_
  rintro e W3 ⟨rfl, sw, b3⟩
  have Q3 := Box.mk (SlS.begin P1b.out.1 P1b.out.2 NQ.out LO.out B2.out.size sw b3)
  have B3 := Box.mk (belU B2.out (Upd.of_below (S := []) b3) (by simp)); have Z23 := Box.mk b3.size
  have P3 := Box.mk (show Fl 76 W3 p2 bb2 cb2 F0 ∧ Pa W3 q2 p2 (1 : Nat) (B : Nat) from ⟨P2.out.1.upd (Upd.of_below b3) (S := []) (by simp) (by simp) (by simp), P2.out.2.upd (Upd.of_below b3) (S := []) (by simp)⟩)
  have LTG := Box.mk (sw.lt)
  clear sw b3 P1b P2 B2
  generalize hg : W2.heap.size = g at Q3 LTG LT2 Z12 Z23 ⊢
  clear hg
  go_wp2_with fail
  refine (begin_any q2 _).mono ?_
  rintro e W4 ⟨rfl, sw, b4⟩
  have Q4 := Box.mk (SlS.begin P3.out.1 P3.out.2 NQ2.out LO3.out B3.out.size sw b4)
  have T4 : Box (Two w W4 B g q p bb cb W3.heap.size q2 p2 bb2 cb2 F0 WS.new F0 WS.new) := ⟨Q3.out.same (Upd.of_below b4), Q4.out, by
    have h1 := LT1.out; have h2 := LT2.out; have h3 := LTG.out; have h4 := Z12.out; have h5 := LO2.out
    intro k hk
    rcases List.mem_cons.1 hk with rfl | hk
    · exact dj (b := W3.heap.size) (Nat.le_refl _) (fun j hj => by
        rcases List.mem_cons.1 hj with rfl | hj
        · omega
        · have := h1 j (List.mem_cons_of_mem _ hj); omega)
    · have hk1 := h5 k hk; have hk2 := h2 k hk
      intro hm
      rcases List.mem_cons.1 hm with rfl | hm
      · omega
      · have := h1 k (List.mem_cons_of_mem _ hm); omega, by
    have h1 := LT1.out; have h2 := LT2.out; have h3 := LTG.out; have h4 := Z12.out; have h5 := LO2.out
    intro k hk hm
    rcases List.mem_cons.1 hm with rfl | hm
    · rcases List.mem_cons.1 hk with hk | hk
      · omega
      · have := h1 _ hk; omega
    · have hm1 := h5 k (List.mem_cons_of_mem _ hm); have hm2 := h2 k (List.mem_cons_of_mem _ hm)
      rcases List.mem_cons.1 hk with hk | hk
      · omega
      · have := h1 _ hk; omega, belU B3.out (Upd.of_below (S := []) b4) (by simp)⟩
  clear sw b4 P3 Q3 Q4 B3 LT1 LT2 Z12 Z23 LO LO2 LO3 NQ NQ2 LTG
  generalize W3.heap.size = g2 at T4 ⊢
  go_upto_block 0 with (fail)
  go_cut [15] (fun al wx => ∃ (A : ByteArray) (s1 : FS) (ws1 : WS), al = .string A ∧ CutR 1 B F0 s1 ws1 A.data.toList ∧ s1.Ok ∧ s1.n.length = F0.n.length ∧ Two w wx B g q p bb cb g2 q2 p2 bb2 cb2 s1 ws1 F0 WS.new)
  case first =>
    go_wp2_with fail
    go_loopw [15, 16] (fun al i wr => ∃ (j : Nat) (A : ByteArray) (s1 : FS) (ws1 : WS), j ≤ l.length ∧ i = .int .i64 j ∧ al = .string A ∧ CutR 1 B F0 s1 ws1 A.data.toList ∧ s1.Ok ∧ s1.n.length = F0.n.length ∧ Two w wr B g q p bb cb g2 q2 p2 bb2 cb2 s1 ws1 F0 WS.new) (fun _ i _ => l.length - (intOf i).toNat)
    case atStart => exact ⟨0, ⟨#[]⟩, F0, WS.new, Nat.zero_le _, rfl, rfl, CU0.out, OK0.out, rfl, T4.out⟩
    case round =>
      clear T4
      obtain ⟨j, A, s1, ws1, hj, rfl, rfl, hcut, ok1, n1, ht⟩ := hrel
      have CU := Box.mk hcut; have OK1 := Box.mk ok1; have N1 := Box.mk n1; have T := Box.mk ht
      have hAl := hcut.le
      have hAs : A.data.toList.length = A.size := by simp
      clear hcut ok1 n1 ht
      by_cases hlt : j < l.length
      · by_cases h60 : j < 60
        · have hltI : (j : Int) < (l.length : Int) := by omega
          have h60I : (j : Int) < 60 := by omega
          obtain ⟨pc, hpc⟩ : ∃ s, l[j]? = some s := ⟨_, List.getElem?_eq_getElem hlt⟩
          obtain ⟨a, rfl, ha, hc, hsm⟩ := HCELLS.out j pc hpc
          have hcell : ∀ w', Below w.heap.size w w' → w'.cell? (a.add j) = some (.string pc) := fun w' hb => by
            have hq : (a.add j).block = a.block := by unfold Addr.add; split <;> rfl
            exact (hb.cell (by rw [hq]; exact ha)).trans hc
          have c0 := hcell _ T.out.be
          have HCELL := Box.mk hcell
          have SZ := Box.mk (fun n => size_any q p (1 : Nat) (B : Nat) _ (wr.drewN n) (T.out.same ((Upd.refl [] wr).drewN n)).a.pa BN.out.2.2.2)
          have hwz : IntKind.i64.wrap (512 * (B : Int) - (A.size : Int)) = 512 * (B : Int) - (A.size : Int) := by rw [IntKind.wrap_i64]; omega
          unfold maxLen at hsm
          by_cases hfit : A.size + pc.size ≤ 512 * B
          · have hfI : decide (512 * (B : Int) - (A.size : Int) < (pc.size : Int)) = false := by rw [decide_eq_false_iff_not]; omega
            have hps : pc.data.toList.length = pc.size := by simp
            obtain ⟨x1, x2⟩ := CU.out.step BN.out.2.2.1 pc.data.toList (by omega)
            have WR := Box.mk (fun pg w hf h hw => swrite_any g q p bb cb (1 : Nat) (B : Nat) s1 ws1 pg pc w hf OK1.out h (by rw [N1.out]; exact BN.out.2.2.2) hw (by rw [CU.out.w]; exact ⟨by dsimp only; omega, by dsimp only; omega, by dsimp only; omega, fun _ => ⟨rfl, fun _ => rfl⟩⟩) T.out.a.sp (by omega))
            have OK2 := Box.mk (WS.write_ok (F := (1 : Nat)) (B := (B : Nat)) OK1.out (ws := ws1) (by rw [CU.out.w]; exact ⟨by dsimp only; omega, by dsimp only; omega, by dsimp only; omega, fun _ => ⟨rfl, fun _ => rfl⟩⟩) pc.data.toList)
            generalize ws1.write (1 : Nat) (B : Nat) s1 pc.data.toList = r at x1 x2 WR OK2
            obtain ⟨r1, r2, r3⟩ := r
            dsimp only at x1 x2 WR OK2
            subst x1
            have CU2 := Box.mk x2
            have HAP : Box ((A ++ pc).data.toList = A.data.toList ++ pc.data.toList) := ⟨by rw [ByteArray.data_append]; simp⟩
            have hsum : ¬ 9223372036854775807 < A.size + pc.size := by omega
            clear x2 hfit hAl hAs hps hcell hc hsm hpc ha hlt h60
            go_upto_region 10 with (fail)
            go_quiet ((go_at_call 9; exact quiet_calls (SZ.out _)))
            go_wp2_with fail
            have T2 := Box.mk (T.out.same ((Upd.refl [] wr).drewN nq))
            have c1 := HCELL.out _ T2.out.be
            clear SZ hwz hfI c0
            generalize wr.drewN nq = w5 at T2 c1 ⊢
            go_wp2_with fail
            obtain ⟨pg, hpg⟩ := T2.out.a.sw
            refine (WR.out pg _ T2.out.a.fl T2.out.a.pa hpg).mono ?_
            rintro e w6 ⟨rfl, f6, s6, u6⟩
            have T3 := Box.mk (T2.out.one f6 s6 u6)
            have c2 := HCELL.out _ T3.out.be
            clear f6 s6 u6 hpg c1 T2 WR
            go_wp2_with fail
            exact ⟨⟨j + 1, A ++ pc, r1, r2, by omega, by go_num, rfl, by rw [HAP.out]; exact CU2.out, OK2.out.1, OK2.out.2.1.trans N1.out, T3.out⟩, by simp [intOf]; omega⟩
          · have hfI : decide (512 * (B : Int) - (A.size : Int) < (pc.size : Int)) = true := by rw [decide_eq_true_eq]; omega
            clear hfit hAl hAs hcell hc hsm hpc ha hlt h60
            go_upto_region 10 with (fail)
            go_quiet ((go_at_call 9; exact quiet_calls (SZ.out _)))
            go_wp2_with fail
            go_meet
            exact ⟨A, s1, ws1, rfl, CU.out, OK1.out, N1.out, T.out.same ((Upd.refl [] wr).drewN nq)⟩
        · have h60I : ¬ (j : Int) < 60 := by omega
          have hltI : (j : Int) < (l.length : Int) := by omega
          clear hAl hAs
          go_wp2_with fail
          go_meet
          exact ⟨A, s1, ws1, rfl, CU.out, OK1.out, N1.out, T.out⟩
      · have hltI : ¬ (j : Int) < (l.length : Int) := by omega
        clear hAl hAs
        go_wp2_with fail
        go_meet
        exact ⟨A, s1, ws1, rfl, CU.out, OK1.out, N1.out, T.out⟩
  case rest =>
    obtain ⟨A, s1, ws1, rfl, hcut, ok1, n1, ht⟩ := hcut
    have hAl := hcut.le
    have hAs : A.data.toList.length = A.size := by simp
    have T := Box.mk ht
    have in1 : In s1.n.length (1 : Nat) (B : Nat) := by rw [n1]; exact BN.out.2.2.2
    have w1 : ws1.Ok (B : Nat) := by rw [hcut.w]; exact ⟨by dsimp only; omega, by dsimp only; omega, by dsimp only; omega, fun _ => ⟨rfl, fun _ => rfl⟩⟩
    have WR := Box.mk (fun pg w hf h hw => swrite_any g2 q2 p2 bb2 cb2 (1 : Nat) (B : Nat) F0 WS.new pg A w hf OK0.out h BN.out.2.2.2 hw (WS.new_ok (by omega)) ht.b.sp (by omega))
    rw [hcut.once ST0.out OK0.out BN.out.2.2.1] at WR
    dsimp only at WR
    obtain ⟨y1, y2⟩ := hcut.fin BN.out.2.2.1
    have E1 := Box.mk (fun pg w hf h hw => send_any g q p bb cb (1 : Nat) (B : Nat) s1 ws1 pg w hf ok1 h in1 hw w1 ht.a.sp)
    have E2 := Box.mk (fun pg w hf h hw => send_any g2 q2 p2 bb2 cb2 (1 : Nat) (B : Nat) s1 ws1 pg w hf ok1 h in1 hw w1 ht.b.sp)
    have I1 := Box.mk (fun w h => image_any p bb cb s1 w h); have I2 := Box.mk (fun w h => image_any p2 bb2 cb2 s1 w h)
    have S1 := Box.mk (fun w h => steps_any p bb cb s1 w h); have S2 := Box.mk (fun w h => steps_any p2 bb2 cb2 s1 w h)
    generalize WS.fin (1 : Nat) (B : Nat) s1 ws1 = r at y1 y2 E1 E2
    obtain ⟨r1, r2, r3⟩ := r
    dsimp only at y1 y2 E1 E2
    subst y1
    have J1 := Box.mk (fun w h => image_any p bb cb r1 w h); have J2 := Box.mk (fun w h => image_any p2 bb2 cb2 r1 w h)
    have R1 := Box.mk (fun w h => steps_any p bb cb r1 w h); have R2 := Box.mk (fun w h => steps_any p2 bb2 cb2 r1 w h)
    generalize (⟨s1.b.toArray⟩ : ByteArray) = X at I1 I2
    generalize (⟨r1.b.toArray⟩ : ByteArray) = Y at J1 J2
    generalize s1.steps = k1 at S1 S2
    generalize r1.steps = k2 at R1 R2
    have hx : (X.toList == X.toList) = true := by simp
    have hy : (Y.toList == Y.toList) = true := by simp
    have hk1 : (k1 == k1) = true := by simp
    have hk2 : (k2 == k2) = true := by simp
    clear hcut ok1 n1 ht y2 in1 w1 hAl hAs CU0 OK0 ST0 BN T4
    obtain ⟨pg, hpg⟩ := T.out.b.sw
    go_wp2_with fail
    refine (WR.out pg _ T.out.b.fl T.out.b.pa hpg).mono ?_
    rintro e w6 ⟨rfl, f6, s6, u6⟩
    have T1 := Box.mk (T.out.two f6 s6 u6)
    clear f6 s6 u6 hpg WR T
    go_wp2_with fail
    refine (I1.out _ T1.out.a.fl).mono ?_
    rintro e w7 ⟨rfl, rfl⟩
    go_wp2_with fail
    refine (I2.out _ T1.out.b.fl).mono ?_
    rintro e w7 ⟨rfl, rfl⟩
    go_wp2_with fail
    refine (S1.out _ T1.out.a.fl).mono ?_
    rintro e w7 ⟨rfl, rfl⟩
    go_wp2_with fail
    refine (S2.out _ T1.out.b.fl).mono ?_
    rintro e w7 ⟨rfl, rfl⟩
    go_wp2_with fail
    obtain ⟨pg, hpg⟩ := T1.out.a.sw
    refine (E1.out pg _ T1.out.a.fl T1.out.a.pa hpg).mono ?_
    rintro e w8 ⟨rfl, f6, s6, u6⟩
    have T2 := Box.mk (T1.out.one f6 s6 u6)
    clear f6 s6 u6 hpg E1 T1
    go_wp2_with fail
    obtain ⟨pg, hpg⟩ := T2.out.b.sw
    refine (E2.out pg _ T2.out.b.fl T2.out.b.pa hpg).mono ?_
    rintro e w9 ⟨rfl, f6, s6, u6⟩
    have T3 := Box.mk (T2.out.two f6 s6 u6)
    clear f6 s6 u6 hpg E2 T2
    go_wp2_with fail
    refine (J1.out _ T3.out.a.fl).mono ?_
    rintro e w7 ⟨rfl, rfl⟩
    go_wp2_with fail
    refine (J2.out _ T3.out.b.fl).mono ?_
    rintro e w7 ⟨rfl, rfl⟩
    go_wp2_with fail
    refine (R1.out _ T3.out.a.fl).mono ?_
    rintro e w7 ⟨rfl, rfl⟩
    go_wp2_with fail
    refine (R2.out _ T3.out.b.fl).mono ?_
    rintro e w7 ⟨rfl, rfl⟩
    go_wp2_with fail
    refine (sfixed_any _).mono ?_
    rintro e w10 ⟨rfl, b10⟩
    have B10 := Box.mk (belU T3.out.be (Upd.of_below (S := []) b10) (by simp))
    clear b10
    go_wp2_with fail
    go_ret
    exact ⟨rfl, B10.out⟩
theorem own : ownKnob Try.prog.godebug = none := by kernel_rfl
theorem laidOut : laidOutB Try.prog = true := by kernel_rfl
set_option maxRecDepth 100000 in
theorem lifted (os : Os) (started : os.Started) (H : Type) (enc : TypeId × Value → H) :
    ReturnsInHanded {} Try.checked os 3 .any (Rows.slotCutsSpec.pre6 enc Try.prog Try.f3 Rows.slotCutsRow.domain false) (Rows.slotCutsSpec.post enc Try.prog Try.f3 false true false false) := by
  refine returnsInHanded_of_change (C := Try.checked) own started (by kernel_rfl) Try.func3
    (ChangeSpec.witness6 (enc := enc) (C := Try.checked) false ⟨#[], #[.string ⟨#[]⟩, .slice none 0 0], []⟩ 8 (by kernel_rfl) (by kernel_rfl) (by kernel_rfl) (by kernel_rfl)) ?_
  intro W base args ds gs before hval0 hW hcnd _
  have hval : ∀ (j : Nat) t v, Try.f3.params[j]? = some t → args[j]? = some v → Value.okWide Try.prog W .any base t v := hval0
  have hW' := hW
  obtain ⟨p, q, hA0, hV, rfl, hfz, hnd⟩ := hW
  have hA : DataW.TrodAll enc Try.prog W 0 (fun _ => true) true Try.f3.params.toList args.toList ds p := hA0
  rw [Try.params3] at hA hval
  obtain ⟨v0, vs0, d0, ds0, p0, q0, hargs, rfl, rfl, h0, r0⟩ := trodAll_cons hA
  obtain ⟨v1, vs1, d1, ds1, p1, q1, rfl, rfl, rfl, h1, r1⟩ := trodAll_cons r0
  obtain ⟨rfl, rfl, rfl⟩ := trodAll_nil r1
  obtain rfl : args = #[v0, v1] := by cases args; simp_all
  obtain ⟨rfl, rfl⟩ := trodVars_none hV
  obtain ⟨s0, rfl, rfl, rfl, ws0⟩ := open_string Try.underlying9 (hval 0 9 v0 rfl rfl) h0
  obtain ⟨l1, hs1⟩ := open_sl (hval 1 22 v1 rfl rfl) h1
  clear hA0 hval0
  refine (walk s0 ws0 l1 W hs1).mono fun e W' ⟨he, bel⟩ => ?_
  subst he
  exact ⟨_, rfl, _, _, _, [], _, [], hW', trodAll_mk1 (shut_bool Try.underlying4 _), (trodAll_cons_mk (shut_string Try.underlying9 ws0) (trodAll_cons_mk (Below.trod laidOut (by kernel_rfl) (of_decide_eq_true (by kernel_rfl)) h1 bel (by obtain ⟨f, hf⟩ := h1; exact DataW.trod_lt _ _ _ _ hf)) trodAll_mk0)), rfl, bel.frame _, fun h => by cases h⟩

theorem proved : Rows.SlotCutsSaid :=
  OpenClaim.holds_of_wide 3 Try.f3 rfl rfl rfl rfl rfl rfl rfl ⟨rfl, rfl, rfl, rfl, rfl⟩ rfl rfl rfl rfl rfl (by kernel_rfl) Try.func3 (by kernel_rfl)
    (of_decide_eq_true (by kernel_rfl)) (by unfold Func.isWrapper; first | (rw [if_pos (by decide +kernel)]; kernel_rfl) | (rw [if_neg (by decide +kernel)]; exact ⟨rfl, rfl⟩))
    (fun os started H enc _ => lifted os started H enc)
#print axioms proved
end Go.Proofs.Ytopiopomioglfaa.slotCuts
