/- Whatever image and script come in, the call of SlotDoes returns true and leaves its argument as it was. No condition. -/
import Derived.Test.YtopiopomioglfaaM16
import Derived.Test.YtopiopomioglfaaM18
import Derived.Test.YtopiopomioglfaaM19
import Derived.Deep.DeepCutAuto
import Derived.Deep.CutBlock
import Derived.IntWalk
import Derived.ProofKit
import Derived.OpenShut
import Derived.ShutString
import Derived.ChangeOld
namespace Go.Proofs.Ytopiopomioglfaa.slotDoes
set_option maxRecDepth 100000
open Go Go.RowKit Go.ChangeShapes Go.WideShapes Go.ChangeAt Sha
open Go.ChangeMaps (open_string shut_string)
set_option linter.unusedVariables false

theorem open_vwB {H : Type} {enc : TypeId × Value → H} {w : World} {base : Nat} {spare : Nat → Bool} {held : Bool} {v : Value} {d : DataW H} {p : List MemPlace}
    (hv : Value.okWide Try.prog w .any base 40 v) (h : DataW.Trod enc Try.prog w 0 spare held 40 v d p) (hb : ∀ k ∈ d.weights Try.prog 40, k ≤ reachBytes) :
    ∃ (im : ByteArray) (sl : Value) (l : List OpS), v = .agg #[.string im, sl] ∧ im.size ≤ maxLen ∧ ScriptS w sl l ∧ ∀ (i : Nat) (o : OpS), l[i]? = some o → o.s.size ≤ reachBytes := by
  obtain ⟨cs, rfl, hsz, hf⟩ := read_structB Try.underlying40 (by kernel_rfl) (by kernel_rfl) hv h hb
  obtain ⟨c0, e0, r0⟩ := hf 0 _ rfl
  obtain ⟨c1, e1, r1⟩ := hf 1 _ rfl
  obtain ⟨im, rfl, wim⟩ := r0.reads.string Try.underlying9
  obtain ⟨l, hl, hr⟩ := ScriptS.of_readsB Try.underlying38 Try.underlying42 (by kernel_rfl) (by kernel_rfl) rfl rfl rfl rfl rfl Try.underlying3 Try.underlying9 Try.underlying5 r1
  exact ⟨im, c1, l, by rw [agg2 hsz e0 e1], wim, hl, hr⟩
/-- Where all blocks lie. -/
structure Sda (w : World) (q p bb cb q' p' bb' cb' g g' : Nat) : Prop where
  ap : Apar w.heap.size q p bb cb q' p' bb' cb'
  l : w.heap.size < g ∧ w.heap.size < g'
  sp : Spl g q p bb cb
  sp' : Spl g' q' p' bb' cb'
  x1 : g ∉ [g', p', bb', cb']
  x2 : g' ∉ [g, p, bb, cb]
  y1 : q ≠ g'
  y2 : q' ≠ g
theorem Sda.s1 {w : World} {q p bb cb q' p' bb' cb' g g' : Nat} (d : Sda w q p bb cb q' p' bb' cb' g g') : p' ∉ [g, p, bb, cb] ∧ bb' ∉ [g, p, bb, cb] ∧ cb' ∉ [g, p, bb, cb] ∧ q' ∉ [g, p, bb, cb] ∧ q ∉ [g, p, bb, cb] := by
  have h := d.ap.s1; have x := d.x1
  simp only [List.mem_cons, List.not_mem_nil, or_false, not_or] at h x ⊢
  obtain ⟨h1, h2, h3, h4, h5⟩ := h
  obtain ⟨x1, x2, x3, x4⟩ := x
  exact ⟨⟨Ne.symm x2, h3⟩, ⟨Ne.symm x3, h4⟩, ⟨Ne.symm x4, h5⟩, ⟨d.y2, h2⟩, ⟨d.sp.hn, h1⟩⟩
theorem Sda.s2 {w : World} {q p bb cb q' p' bb' cb' g g' : Nat} (d : Sda w q p bb cb q' p' bb' cb' g g') : p ∉ [g', p', bb', cb'] ∧ bb ∉ [g', p', bb', cb'] ∧ cb ∉ [g', p', bb', cb'] ∧ q ∉ [g', p', bb', cb'] ∧ q' ∉ [g', p', bb', cb'] := by
  have h := d.ap.s2; have x := d.x2
  simp only [List.mem_cons, List.not_mem_nil, or_false, not_or] at h x ⊢
  obtain ⟨h1, h2, h3, h4, h5⟩ := h
  obtain ⟨x1, x2, x3, x4⟩ := x
  exact ⟨⟨Ne.symm x2, h3⟩, ⟨Ne.symm x3, h4⟩, ⟨Ne.symm x4, h5⟩, ⟨d.y1, h2⟩, ⟨d.sp'.hn, h1⟩⟩
theorem Sda.g1 {w : World} {q p bb cb q' p' bb' cb' g g' : Nat} (d : Sda w q p bb cb q' p' bb' cb' g g') : ∀ i, i ∈ [g, p, bb, cb] → w.heap.size < i := fun i hi => by
  rcases List.mem_cons.1 hi with rfl | hi
  · exact d.l.1
  · exact d.ap.g1 i hi
theorem Sda.g2 {w : World} {q p bb cb q' p' bb' cb' g g' : Nat} (d : Sda w q p bb cb q' p' bb' cb' g g') : ∀ i, i ∈ [g', p', bb', cb'] → w.heap.size < i := fun i hi => by
  rcases List.mem_cons.1 hi with rfl | hi
  · exact d.l.2
  · exact d.ap.g2 i hi
/-- Both writers, in one state. -/
structure SdS (w wr : World) (im : ByteArray) (sl : Value) (B q p bb cb q' p' bb' cb' g g' : Nat) (s : FS) (ws : WS) : Prop where
  ok : s.Ok
  nn : s.n.length = 1 + B
  wok : ws.Ok (B : Nat)
  pd : PdS wr (1 : Nat) (B : Nat) q p bb cb q' p' bb' cb' s s
  sw : ∃ pg, Sw wr g q ws pg
  rs : Rsw wr g' q' ws
  ag : ArgV w wr im sl
theorem SdS.mid {w wr w1 : World} {im : ByteArray} {sl : Value} {B q p bb cb q' p' bb' cb' g g' : Nat} {s : FS} {ws : WS} (h : SdS w wr im sl B q p bb cb q' p' bb' cb' g g' s ws) (d : Sda w q p bb cb q' p' bb' cb' g g') (u : Upd [g, p, bb, cb] wr w1) :
    Fl 57 w1 p' bb' cb' s ∧ RPa w1 q' p' (1 : Nat) (B : Nat) ∧ Rsw w1 g' q' ws := by
  obtain ⟨a1, a2, a3, a4, a5⟩ := d.s1
  exact ⟨h.pd.m.upd u a1 a2 a3, h.pd.ra.upd u a4, h.rs.upd u d.x2⟩
theorem SdS.next {w wr w1 w2 : World} {im : ByteArray} {sl : Value} {B q p bb cb q' p' bb' cb' g g' : Nat} {s s1 : FS} {ws ws1 : WS} (h : SdS w wr im sl B q p bb cb q' p' bb' cb' g g' s ws) (d : Sda w q p bb cb q' p' bb' cb' g g')
    (ok : s1.Ok) (nn : s1.n.length = s.n.length) (wok : ws1.Ok (B : Nat)) (f1 : Fl 76 w1 p bb cb s1) (sw1 : ∃ pg, Sw w1 g q ws1 pg) (u1 : Upd [g, p, bb, cb] wr w1) (f2 : Fl 57 w2 p' bb' cb' s1) (rs : Rsw w2 g' q' ws1) (u2 : Upd [g', p', bb', cb'] w1 w2) :
    SdS w w2 im sl B q p bb cb q' p' bb' cb' g g' s1 ws1 := by
  obtain ⟨a1, a2, a3, a4, a5⟩ := d.s1
  obtain ⟨b1, b2, b3, b4, b5⟩ := d.s2
  obtain ⟨pg, hpg⟩ := sw1
  exact ⟨ok, nn.trans h.nn, wok, ⟨f1.upd u2 b1 b2 b3, (h.pd.pa.upd u1 a5).upd u2 b4, f2, (h.pd.ra.upd u1 a4).upd u2 b5⟩, ⟨pg, hpg.upd u2 d.x1⟩, rs, (h.ag.upd u1 d.g1).upd u2 d.g2⟩
theorem SdS.same {w wr w1 : World} {im : ByteArray} {sl : Value} {B q p bb cb q' p' bb' cb' g g' : Nat} {s : FS} {ws : WS} (h : SdS w wr im sl B q p bb cb q' p' bb' cb' g g' s ws) (u : Upd [] wr w1) : SdS w w1 im sl B q p bb cb q' p' bb' cb' g g' s ws := by
  obtain ⟨pg, hpg⟩ := h.sw
  exact ⟨h.ok, h.nn, h.wok, h.pd.same u, ⟨pg, hpg.upd u (by simp)⟩, h.rs.upd u (by simp), h.ag.upd u (by simp)⟩
/-- What a call of the script leaves. -/
def Aft (w : World) (im : ByteArray) (sl : Value) (B q p bb cb q' p' bb' cb' : Nat) (f x a b t1 t2 : Value) (wx : World) : Prop :=
  ∃ (g g' : Nat) (s : FS) (ws : WS) (e : Int) (t : ByteArray), f = .pointer (some ⟨g, 0, none⟩) ∧ x = .pointer (some ⟨g', 0, none⟩) ∧ a = .int .i64 e ∧ b = .int .i64 e ∧ t1 = .string t ∧ t2 = .string t ∧ SdS w wx im sl B q p bb cb q' p' bb' cb' g g' s ws ∧ Sda w q p bb cb q' p' bb' cb' g g'
theorem rwr0 (w : World) (q : Nat) : Rsw (w.alloc (.cells (rwc q ⟨#[]⟩ 0 0 false 0) 51)) w.heap.size q WS.new := ⟨⟨#[]⟩, rfl, ⟨heap_alloc_new _ _⟩⟩
/-- New writers over the same. -/
theorem begin2 {w wr w1 w2 : World} {im : ByteArray} {sl : Value} {B q p bb cb q' p' bb' cb' : Nat} {s : FS} (ok : s.Ok) (nn : s.n.length = 1 + B) (pd : PdS wr (1 : Nat) (B : Nat) q p bb cb q' p' bb' cb' s s) (ag : ArgV w wr im sl) (ap : Apar w.heap.size q p bb cb q' p' bb' cb')
    (sw : Swr w1 wr.heap.size q (List.replicate 64 0) 0 false 0) (b1 : Below wr.heap.size wr w1) (hw2 : w2 = w1.alloc (.cells (rwc q' ⟨#[]⟩ 0 0 false 0) 51)) :
    SdS w w2 im sl B q p bb cb q' p' bb' cb' wr.heap.size w1.heap.size s WS.new ∧ Sda w q p bb cb q' p' bb' cb' wr.heap.size w1.heap.size := by
  obtain ⟨⟨l1, l2, l3, l4⟩, ⟨l5, l6, l7, l8⟩⟩ := pd.lt
  have u1 := Upd.of_below (S := []) b1
  have lg := sw.lt
  have u2 : Upd [] w1 w2 := by rw [hw2]; exact (Upd.refl [] w1).alloc _
  have hz := b1.size
  have hwz : w.heap.size < wr.heap.size := (Array.getElem?_eq_some_iff.1 ag.g).1
  refine ⟨⟨ok, nn, WS.new_ok (by omega), (pd.same u1).same u2, ⟨_, (begin_sw sw).upd u2 (by simp)⟩, by rw [hw2]; exact rwr0 w1 q', (ag.upd u1 (by simp)).upd u2 (by simp)⟩, ⟨ap, ⟨hwz, by omega⟩, ⟨nm3 (by omega) (by omega) (by omega), ap.s1.1, by omega⟩, ⟨nm3 (by omega) (by omega) (by omega), ap.s2.1, by omega⟩, ?_, ?_, by omega, by omega⟩⟩
  · simp only [List.mem_cons, List.not_mem_nil, or_false, not_or]; exact ⟨by omega, by omega, by omega, by omega⟩
  · simp only [List.mem_cons, List.not_mem_nil, or_false, not_or]; exact ⟨by omega, by omega, by omega, by omega⟩
set_option maxHeartbeats 16000000 in
theorem walk (im : ByteArray) (sl : Value) (lo : List OpS) (wim : im.size ≤ maxLen) (w : World) (hsc : ScriptS w sl lo) (hrb : ∀ (i : Nat) (o : OpS), lo[i]? = some o → o.s.size ≤ reachBytes) :
    Calls Try.prog 6 #[.agg #[.string im, sl]] w fun e w' => e = .returned (.bool true) ∧ Below w.heap.size w w' := by
  obtain ⟨ao2, cap2, rfl, hmax, hops⟩ := hsc
  have hlen2 : lo.length ≤ 9223372036854775807 := by unfold maxLen at hmax; omega
  have hops := Box.mk hops; have hrb := Box.mk hrb
  have LD := Box.mk (fun w => laid_any im wim w)
  unfold LaidAt at LD
  have ok0 := lfs_ok im; have n0 := lfs_two im
  generalize lfs im = F0 at LD ok0 n0
  obtain ⟨B, hB, hB2⟩ : ∃ B : Nat, ((F0.n.length : Int) - 1 = (B : Int)) ∧ F0.n.length = 1 + B := ⟨F0.n.length - 1, by omega, by omega⟩
  rw [hB] at LD
  have BN := Box.mk (show 1 ≤ B ∧ B ≤ 7 ∧ In (1 + B) (1 : Nat) (B : Nat) from ⟨by omega, by omega, ⟨by omega, by omega, by omega, by omega⟩⟩)
  have K0 := Box.mk (show F0.Ok ∧ F0.n.length = 1 + B from ⟨ok0, hB2⟩)
  have A0 := Box.mk (ArgV.start w im (.slice ao2 lo.length cap2))
  clear hB hB2 n0 ok0 wim hmax
  go_enter Try.func6, Try.ntmps6
  go_upto_region 1 with (fail)
  generalize w.alloc (.cells #[.string im, .slice ao2 lo.length cap2] 40) = w0 at A0 ⊢
  obtain ⟨a0, a1⟩ := A0.out.cells
  go_wp2_with fail
  refine (LD.out _).mono ?_
  rintro e W1 ⟨q, p, bb, cb, q', p', bb', cb', rfl, pd, ap, nq, lo1, b1⟩
  have hw0 : w.heap.size < w0.heap.size := (Array.getElem?_eq_some_iff.1 A0.out.g).1
  have AP := Box.mk (ap w.heap.size hw0)
  have PD := Box.mk (show PdS W1 (1 : Nat) (B : Nat) q p bb cb q' p' bb' cb' F0 F0 from pd)
  have AG := Box.mk (A0.out.upd (Upd.of_below (S := []) b1) (by simp))
  clear pd ap nq lo1 b1 LD a0 a1 A0 hw0
  go_wp2_with fail
  refine (begin_any q _).mono ?_
  rintro e W2 ⟨rfl, sw, b2⟩
  obtain ⟨W3, hW3⟩ : ∃ W3, W3 = W2.alloc (.cells (rwc q' ⟨#[]⟩ 0 0 false 0) 51) := ⟨_, rfl⟩
  obtain ⟨z1, z2⟩ := begin2 K0.out.1 K0.out.2 PD.out AG.out AP.out sw b2 hW3
  have ST0 := Box.mk z1; have DA0 := Box.mk z2
  clear z1 z2 sw b2 PD AG K0
  change W3 = W2.alloc (.cells #[.pointer (some ⟨q', 0, none⟩), .string ⟨#[]⟩, .int .i64 0, .int .i64 0, .bool false, .int .i64 0] 51) at hW3
  go_upto_region 5 with (fail)
  rw [← hW3]
  clear hW3
  generalize W1.heap.size = g at ST0 DA0 ⊢
  generalize W2.heap.size = g' at ST0 DA0 ⊢
  go_wp2_with fail
  go_loopw [7, 8, 9] (fun f x i wr => ∃ (j g g' : Nat) (s : FS) (ws : WS), j ≤ lo.length ∧ f = .pointer (some ⟨g, 0, none⟩) ∧ x = .pointer (some ⟨g', 0, none⟩) ∧ i = .int .i64 j ∧ SdS w wr im (.slice ao2 lo.length cap2) B q p bb cb q' p' bb' cb' g g' s ws ∧ Sda w q p bb cb q' p' bb' cb' g g') (fun _ _ i _ => lo.length - (intOf i).toNat)
  case atStart => exact ⟨0, g, g', F0, WS.new, Nat.zero_le _, rfl, rfl, rfl, ST0.out, DA0.out⟩
  case round =>
    clear ST0 DA0
    obtain ⟨j, g, g', s, ws, hj, rfl, rfl, rfl, st, da⟩ := hrel
    have ST := Box.mk st; have DA := Box.mk da
    obtain ⟨e0, e1⟩ := st.ag.cells
    by_cases hlt : j < lo.length
    · by_cases h60 : j < 60
      · have hltI : (j : Int) < (lo.length : Int) := by omega
        have h60I : (j : Int) < 60 := by omega
        obtain ⟨o, ho⟩ : ∃ o, lo[j]? = some o := ⟨_, List.getElem?_eq_getElem hlt⟩
        obtain ⟨a, rfl, HO⟩ := hops.out j o ho
        have hox : OpAtS wr (a.add (j * 5)) o := HO.below st.ag.b HO.lt
        have RB := Box.mk (hrb.out j o ho)
        obtain ⟨q0, q1, q2, q3, q4⟩ := hox.flat
        obtain ⟨wk, hwk⟩ : ∃ wk, wk = wr.alloc (obS o) := ⟨_, rfl⟩
        have uk : Upd [] wr wk := by rw [hwk]; exact (Upd.refl [] wr).alloc _
        have SK := Box.mk (st.same uk)
        have OX := Box.mk HO.ok
        have OB : Box (wk.heap[wr.heap.size]? = some (obS o)) := ⟨by rw [hwk]; exact heap_alloc_new _ _⟩
        have KN : Box (wr.heap.size ∉ [g, p, bb, cb] ∧ wr.heap.size ∉ [g', p', bb', cb']) := ⟨by
          obtain ⟨⟨l1, l2, l3, l4⟩, ⟨l5, l6, l7, l8⟩⟩ := st.pd.lt
          obtain ⟨pg, hpg⟩ := st.sw
          have lg := hpg.at_.lt
          obtain ⟨A, _, hr⟩ := st.rs.at_
          have lg' := hr.lt
          simp only [List.mem_cons, List.not_mem_nil, or_false, not_or]
          exact ⟨⟨by omega, by omega, by omega, by omega⟩, ⟨by omega, by omega, by omega, by omega⟩⟩⟩
        have SIN : Box (In s.n.length (1 : Nat) (B : Nat)) := ⟨by rw [st.nn]; exact BN.out.2.2⟩
        obtain ⟨z0, z1, z2, z3, z4⟩ := obS_cells OB.out
        have HLT := Box.mk hlt
        clear st hox HO ST uk hlt h60 da
        unfold obS at hwk
        go_upto_region 9 with (fail)
        rw [← hwk]
        clear hwk q0 q1 q2 q3 q4 e0 e1
        go_upto_block 2 with (fail)
        go_cut [7, 8, 11, 12, 13, 14] (fun f x a1 b1 t1 t2 wx => Aft w im (.slice (some a) lo.length cap2) B q p bb cb q' p' bb' cb' f x a1 b1 t1 t2 wx)
        case first =>
          go_wp2_with fail
          · as_aux_lemma =>
            obtain ⟨pg, hpg⟩ := SK.out.sw
            have C1 := Box.mk (swrite_any g q p bb cb (1 : Nat) (B : Nat) s ws pg o.s _ SK.out.pd.f SK.out.ok SK.out.pd.pa SIN.out hpg SK.out.wok DA.out.sp (by have := OX.out.s; unfold maxLen at this; omega))
            have C2 := Box.mk (fun w hf hp hr => rwrite_any g' q' p' bb' cb' (1 : Nat) (B : Nat) s ws o.s w hf SK.out.ok hp SIN.out hr SK.out.wok DA.out.sp' RB.out)
            have OKN := Box.mk (WS.write_ok (F := (1 : Nat)) (B := (B : Nat)) SK.out.ok SK.out.wok o.s.data.toList)
            clear hpg
            generalize ws.write (1 : Nat) (B : Nat) s o.s.data.toList = r at C1 C2 OKN
            obtain ⟨r1, r2, r3⟩ := r
            dsimp only at C1 C2 OKN
            refine C1.out.mono ?_
            rintro e w5 ⟨rfl, f5, s5, u5⟩
            have F5 := Box.mk f5; have S5 := Box.mk s5; have U5 := Box.mk u5; have M5 := Box.mk (SK.out.mid DA.out u5); have OB5 := Box.mk (keep_obS OB.out u5 KN.out.1)
            clear f5 s5 u5 z0 z1 z2 z3 z4 C1
            obtain ⟨z0, z1, z2, z3, z4⟩ := obS_cells OB5.out
            go_wp2_with fail
            refine (C2.out _ M5.out.1 M5.out.2.1 M5.out.2.2).mono ?_
            rintro e w6 ⟨rfl, f6, s6, u6⟩
            have S6 := Box.mk (SK.out.next DA.out OKN.out.1 OKN.out.2.1 OKN.out.2.2 F5.out S5.out U5.out f6 s6 u6)
            clear f6 s6 u6 z0 z1 z2 z3 z4 C2
            go_wp2_with fail
            go_meet
            exact ⟨g, g', r1, r2, r3, ⟨#[]⟩, rfl, rfl, rfl, rfl, rfl, rfl, S6.out, DA.out⟩
          · as_aux_lemma =>
            obtain ⟨pg, hpg⟩ := SK.out.sw
            have C1 := Box.mk (send_any g q p bb cb (1 : Nat) (B : Nat) s ws pg _ SK.out.pd.f SK.out.ok SK.out.pd.pa SIN.out hpg SK.out.wok DA.out.sp)
            have C2 := Box.mk (fun w hf hp hr => rend_any g' q' p' bb' cb' (1 : Nat) (B : Nat) s ws w hf SK.out.ok hp SIN.out hr SK.out.wok DA.out.sp')
            have OKN := Box.mk (WS.fin_ok (F := (1 : Nat)) (B := (B : Nat)) SK.out.ok SK.out.wok)
            clear hpg
            generalize WS.fin (1 : Nat) (B : Nat) s ws = r at C1 C2 OKN
            obtain ⟨r1, r2, r3⟩ := r
            dsimp only at C1 C2 OKN
            refine C1.out.mono ?_
            rintro e w5 ⟨rfl, f5, s5, u5⟩
            have F5 := Box.mk f5; have S5 := Box.mk s5; have U5 := Box.mk u5; have M5 := Box.mk (SK.out.mid DA.out u5); have OB5 := Box.mk (keep_obS OB.out u5 KN.out.1)
            clear f5 s5 u5 z0 z1 z2 z3 z4 C1
            obtain ⟨z0, z1, z2, z3, z4⟩ := obS_cells OB5.out
            go_wp2_with fail
            refine (C2.out _ M5.out.1 M5.out.2.1 M5.out.2.2).mono ?_
            rintro e w6 ⟨rfl, f6, s6, u6⟩
            have S6 := Box.mk (SK.out.next DA.out OKN.out.1 OKN.out.2.1 OKN.out.2.2 F5.out S5.out U5.out f6 s6 u6)
            clear f6 s6 u6 z0 z1 z2 z3 z4 C2
            go_wp2_with fail
            go_meet
            exact ⟨g, g', r1, r2, r3, ⟨#[]⟩, rfl, rfl, rfl, rfl, rfl, rfl, S6.out, DA.out⟩
          · as_aux_lemma =>
            refine (begin_any q _).mono ?_
            rintro e W2 ⟨rfl, sw, b2⟩
            obtain ⟨W3, hW3⟩ : ∃ W3, W3 = W2.alloc (.cells (rwc q' ⟨#[]⟩ 0 0 false 0) 51) := ⟨_, rfl⟩
            obtain ⟨y1, y2⟩ := begin2 SK.out.ok SK.out.nn SK.out.pd SK.out.ag AP.out sw b2 hW3
            have ST3 := Box.mk y1; have DA3 := Box.mk y2
            clear y1 y2 sw b2 z0 z1 z2 z3 z4
            change W3 = W2.alloc (.cells #[.pointer (some ⟨q', 0, none⟩), .string ⟨#[]⟩, .int .i64 0, .int .i64 0, .bool false, .int .i64 0] 51) at hW3
            go_wp2_with fail
            rw [← hW3]
            clear hW3
            go_meet
            exact ⟨_, _, s, WS.new, 0, ⟨#[]⟩, rfl, rfl, rfl, rfl, rfl, rfl, ST3.out, DA3.out⟩
          · as_aux_lemma =>
            refine (arm_any p bb cb s o.n o.a o.m _ SK.out.pd.f OX.out.a).mono ?_
            rintro e w5 ⟨rfl, f5, u5⟩
            obtain ⟨pg, hpg⟩ := SK.out.sw
            have F5 := Box.mk f5; have U5 := Box.mk (u5.mono (T := [g, p, bb, cb]) (by simp)); have M5 := Box.mk (SK.out.mid DA.out U5.out); have OB5 := Box.mk (keep_obS OB.out U5.out KN.out.1); have S5 := Box.mk (hpg.upd (u5.mono (T := [p, bb, cb]) (by simp)) DA.out.sp.hg)
            clear f5 u5 z0 z1 z2 z3 z4 hpg
            obtain ⟨z0, z1, z2, z3, z4⟩ := obS_cells OB5.out
            go_wp2_with fail
            refine (rarm_any p' bb' cb' s o.n o.a o.m _ M5.out.1 OX.out.a).mono ?_
            rintro e w6 ⟨rfl, f6, u6⟩
            have S6 := Box.mk (SK.out.next DA.out (FS.arm_ok SK.out.ok _ _ _ OX.out.n.2 OX.out.a.2) (congrArg List.length (arm_n s o.n o.a o.m)) SK.out.wok F5.out ⟨pg, S5.out⟩ U5.out f6 (M5.out.2.2.upd (u6.mono (T := [p', bb', cb']) (by simp)) DA.out.sp'.hg) (u6.mono (by simp)))
            clear f6 u6 z0 z1 z2 z3 z4
            go_wp2_with fail
            go_meet
            exact ⟨g, g', _, ws, _, ⟨#[]⟩, rfl, rfl, rfl, rfl, rfl, rfl, S6.out, DA.out⟩
          · as_aux_lemma =>
            refine (revive_any p bb cb s _ SK.out.pd.f).mono ?_
            rintro e w5 ⟨rfl, f5, u5⟩
            obtain ⟨pg, hpg⟩ := SK.out.sw
            have F5 := Box.mk f5; have U5 := Box.mk (u5.mono (T := [g, p, bb, cb]) (by simp)); have M5 := Box.mk (SK.out.mid DA.out U5.out); have OB5 := Box.mk (keep_obS OB.out U5.out KN.out.1); have S5 := Box.mk (hpg.upd (u5.mono (T := [p, bb, cb]) (by simp)) DA.out.sp.hg)
            clear f5 u5 z0 z1 z2 z3 z4 hpg
            obtain ⟨z0, z1, z2, z3, z4⟩ := obS_cells OB5.out
            go_wp2_with fail
            refine (rrevive_any p' bb' cb' s _ M5.out.1).mono ?_
            rintro e w6 ⟨rfl, f6, u6⟩
            have S6 := Box.mk (SK.out.next DA.out (back_ok SK.out.ok) rfl SK.out.wok F5.out ⟨pg, S5.out⟩ U5.out f6 (M5.out.2.2.upd (u6.mono (T := [p', bb', cb']) (by simp)) DA.out.sp'.hg) (u6.mono (by simp)))
            clear f6 u6 z0 z1 z2 z3 z4
            go_wp2_with fail
            go_meet
            exact ⟨g, g', _, ws, 0, ⟨#[]⟩, rfl, rfl, rfl, rfl, rfl, rfl, S6.out, DA.out⟩
          · as_aux_lemma =>
            have R1 := Box.mk (fun w hf hp => sread_any q p bb cb (1 : Nat) (B : Nat) s o.n w hf SK.out.ok hp SIN.out OX.out.n)
            have R2 := Box.mk (fun w hf hp => rsread_any q' p' bb' cb' (1 : Nat) (B : Nat) s o.n w hf SK.out.ok hp SIN.out OX.out.n)
            have C1 := Box.mk (fun w hf hp => scheck_any q p bb cb (1 : Nat) (B : Nat) s o.n o.s w hf SK.out.ok hp SIN.out OX.out.n)
            have C2 := Box.mk (fun w hf hp => rscheck_any q' p' bb' cb' (1 : Nat) (B : Nat) s o.n o.s w hf SK.out.ok hp SIN.out OX.out.n)
            generalize scheckV s (1 : Nat) (B : Nat) o.n o.s = ck at C1 C2
            generalize sreadV s (1 : Nat) (B : Nat) o.n = V at R1 R2
            obtain ⟨V1, V2⟩ := V
            dsimp only at R1 R2
            refine (R1.out _ SK.out.pd.f SK.out.pd.pa).mono ?_
            rintro e w5 ⟨rfl, rfl⟩
            go_wp2_with fail
            refine (R2.out _ SK.out.pd.m SK.out.pd.ra).mono ?_
            rintro e w6 ⟨rfl, u6⟩
            have S6 := Box.mk (SK.out.same u6); have OB6 := Box.mk (keep_obS OB.out u6 (by simp))
            clear u6 z0 z1 z2 z3 z4 R1 R2
            obtain ⟨z0, z1, z2, z3, z4⟩ := obS_cells OB6.out
            have hck : (ck != ck) = false := by simp
            have ROW := Box.mk (show w6.drew.heap[wr.heap.size]? = some (obS o) from OB6.out)
            unfold obS at ROW
            go_upto_region 29 with (fail)
            refine wp_region_mix 12 [.flo, .flo, .flo, .flo, .flo, .cha, .flo, .flo, .flo, .flo, .flo, .cha] (by kernel_rfl) (by kernel_rfl) rfl ?_
            simp only [List.take, List.zip, List.zipWith]
            try go_frame
            refine gm_move (.tmp 4) (.inl rfl) (.pointer (some ⟨q, 0, none⟩)) rfl ?_
            try go_frame
            refine gm_flo (.pointer (some ⟨wr.heap.size, 1, none⟩)) (fun w1 hw1 => ?_) ?_
            case refine_1 =>
              go_simp
            try go_frame
            refine gm_flo (.int .i64 o.n) (fun w1 hw1 => ?_) ?_
            case refine_1 =>
              have e1 : w1.cell? ⟨wr.heap.size, 1, none⟩ = some (.int .i64 o.n) := (cell_of_row _ _ _ _ _ _ (hw1.at (by simp) ROW.out)).trans rfl
              go_simp
            try go_frame
            refine gm_flo (.pointer (some ⟨wr.heap.size, 4, none⟩)) (fun w1 hw1 => ?_) ?_
            case refine_1 =>
              go_simp
            try go_frame
            refine gm_flo (.string o.s) (fun w1 hw1 => ?_) ?_
            case refine_1 =>
              have e1 : w1.cell? ⟨wr.heap.size, 4, none⟩ = some (.string o.s) := (cell_of_row _ _ _ _ _ _ (hw1.at (by simp) ROW.out)).trans rfl
              go_simp
            try go_frame
            refine gm_call [.pointer (some ⟨q, 0, none⟩), .int .i64 o.n, .string o.s] (by kernel_rfl) rfl rfl Stb.tt (fun w1 hw1 hF1 => (C1.out w1 (S6.out.same ((Upd.refl [] w6).drew.trans hw1.upd)).pd.f (S6.out.same ((Upd.refl [] w6).drew.trans hw1.upd)).pd.pa).mono ?_)
            rintro e w2 ⟨rfl, hu⟩
            refine ⟨_, rfl, Gr.of hu, ?_⟩
            clear hw1 hF1 hu w1 w2
            try go_frame
            refine gm_move (.tmp 6) (.inl rfl) (.pointer (some ⟨q', 0, none⟩)) rfl ?_
            try go_frame
            refine gm_flo (.pointer (some ⟨wr.heap.size, 1, none⟩)) (fun w1 hw1 => ?_) ?_
            case refine_1 =>
              go_simp
            try go_frame
            refine gm_flo (.int .i64 o.n) (fun w1 hw1 => ?_) ?_
            case refine_1 =>
              have e1 : w1.cell? ⟨wr.heap.size, 1, none⟩ = some (.int .i64 o.n) := (cell_of_row _ _ _ _ _ _ (hw1.at (by simp) ROW.out)).trans rfl
              go_simp
            try go_frame
            refine gm_flo (.pointer (some ⟨wr.heap.size, 4, none⟩)) (fun w1 hw1 => ?_) ?_
            case refine_1 =>
              go_simp
            try go_frame
            refine gm_flo (.string o.s) (fun w1 hw1 => ?_) ?_
            case refine_1 =>
              have e1 : w1.cell? ⟨wr.heap.size, 4, none⟩ = some (.string o.s) := (cell_of_row _ _ _ _ _ _ (hw1.at (by simp) ROW.out)).trans rfl
              go_simp
            try go_frame
            refine gm_call [.pointer (some ⟨q', 0, none⟩), .int .i64 o.n, .string o.s] (by kernel_rfl) rfl rfl Stb.tt (fun w1 hw1 hF1 => (C2.out w1 (S6.out.same ((Upd.refl [] w6).drew.trans hw1.upd)).pd.m (S6.out.same ((Upd.refl [] w6).drew.trans hw1.upd)).pd.ra).mono ?_)
            rintro e w2 ⟨rfl, hu⟩
            refine ⟨_, rfl, hu.gr, ?_⟩
            clear hw1 hF1 hu w1 w2
            try go_frame
            refine gm_nil ?_
            intro w9 hw9 hF9
            simp only [List.drop]
            try go_frame
            have S9 := Box.mk (S6.out.same ((Upd.refl [] w6).drew.trans hw9.upd))
            clear hw9 hF9
            go_wp2_with fail
            go_meet
            exact ⟨g, g', s, ws, V2, V1, rfl, rfl, rfl, rfl, rfl, rfl, S9.out, DA.out⟩
          · go_meet
            exact ⟨g, g', s, ws, 0, ⟨#[]⟩, rfl, rfl, rfl, rfl, rfl, rfl, SK.out, DA.out⟩
        case rest =>
         as_aux_lemma =>
          obtain ⟨g2, g2', s2, ws2, e, t, rfl, rfl, rfl, rfl, rfl, rfl, st, da⟩ := hcut
          clear SK OX OB KN SIN DA z0 z1 z2 z3 z4
          obtain ⟨bcap, ccap, hb, hc, d0, d1, d2, d3, d4, d5, d6⟩ := st.pd.m.cells
          obtain ⟨RA, hRA, hrw⟩ := st.rs.at_
          obtain ⟨y0, y1, y2, y3, y4, y5⟩ := hrw.cells
          obtain ⟨pg, hpg⟩ := st.sw
          have hcv := fun n => run_bytes_at Try.prog (wc.drewN n) bb' 0 bcap s2.b 54 9 5 _ rfl Try.underlying54 Try.underlying5 Try.underlying9 (fun j u hu => by rw [Nat.zero_add]; exact (st.pd.m.byte j u hu).1)
          have PN := Box.mk (fun n : Nat => st.same ((Upd.refl [] wc).drewN n))
          have SN := Box.mk (fun n : Nat => hpg.upd ((Upd.refl [] wc).drewN n) (by simp))
          have DA := Box.mk da
          have hq1 : (e != e) = false := by simp
          have hq2 : (t.toList != t.toList) = false := by simp
          clear st hRA hrw hpg y0 y1 y2 y4 y5 d1 d3 d4 d5 d6 hb hc da
          go_wp2_with fail
          go_quiet (first
            | (go_at_call 11; exact quiet_calls (image_any p bb cb s2 _ (PN.out _).pd.f))
            | (go_at_call 12; exact quiet_calls (steps_any p bb cb s2 _ (PN.out _).pd.f))
            | (go_at_call 17; exact quiet_calls (ssize_any g2 q pg ws2.came ws2.ended ws2.e _ (SN.out _).at_)))
          go_wp2_with fail
          exact ⟨⟨j + 1, g2, g2', s2, ws2, by have := HLT.out; omega, rfl, rfl, by go_num, PN.out _, DA.out⟩, by have := HLT.out; simp [intOf]; omega⟩
      · as_aux_lemma =>
        have h60I : ¬ (j : Int) < 60 := by omega
        have hltI : (j : Int) < (lo.length : Int) := by omega
        clear st
        go_wp2_with fail
        refine (sfixed_any _).mono ?_
        rintro e w11 ⟨rfl, b11⟩
        have B11 := Box.mk (belU ST.out.ag.b (Upd.of_below (S := []) b11) (by simp))
        clear b11
        go_wp2_with fail
        go_ret
        exact ⟨rfl, B11.out⟩
    · as_aux_lemma =>
      have hltI : ¬ (j : Int) < (lo.length : Int) := by omega
      clear st
      go_wp2_with fail
      refine (sfixed_any _).mono ?_
      rintro e w11 ⟨rfl, b11⟩
      have B11 := Box.mk (belU ST.out.ag.b (Upd.of_below (S := []) b11) (by simp))
      clear b11
      go_wp2_with fail
      go_ret
      exact ⟨rfl, B11.out⟩
theorem own : ownKnob Try.prog.godebug = none := by kernel_rfl
theorem laidOut : laidOutB Try.prog = true := by kernel_rfl
set_option maxRecDepth 100000 in
theorem lifted (os : Os) (started : os.Started) (H : Type) (enc : TypeId × Value → H) :
    ReturnsInHanded {} Try.checked os 6 .any (Rows.slotDoesSpec.pre6 enc Try.prog Try.f6 Rows.slotDoesRow.domain false) (Rows.slotDoesSpec.post enc Try.prog Try.f6 false true false false) := by
  refine returnsInHanded_of_change_sized (C := Try.checked) own started (by kernel_rfl) Try.func6
    (ChangeSpec.witness6 (enc := enc) (C := Try.checked) false ⟨#[], #[.agg #[.string ⟨#[]⟩, .slice none 0 0]], []⟩ 8 (by kernel_rfl) (by kernel_rfl) (by kernel_rfl) (by kernel_rfl)) ?_
  intro W base args ds gs before hval0 hW hcnd hsz0 _
  have hval : ∀ (j : Nat) t v, Try.f6.params[j]? = some t → args[j]? = some v → Value.okWide Try.prog W .any base t v := hval0
  have hW' := hW
  obtain ⟨p, q, hA0, hV, rfl, hfz, hnd⟩ := hW
  have hA : DataW.TrodAll enc Try.prog W 0 (fun _ => true) true Try.f6.params.toList args.toList ds p := hA0
  rw [Try.params6] at hA hval
  obtain ⟨v0, vs0, d0, ds0, p0, q0, hargs, rfl, rfl, h0, r0⟩ := trodAll_cons hA
  obtain ⟨rfl, rfl, rfl⟩ := trodAll_nil r0
  obtain rfl : args = #[v0] := by cases args; simp_all
  obtain ⟨rfl, rfl⟩ := trodVars_none hV
  obtain ⟨im0, sl0, l0, rfl, wi0, hsc0, hrb0⟩ := open_vwB (hval 0 40 v0 rfl rfl) h0 (fun k hk => of_decide_eq_true (List.all_eq_true.1 hsz0 k (DataW.weights_mem_each (j := 0) (t := 40) (d := d0) (by rw [Try.params6]; rfl) rfl k hk)))
  clear hA0 hval0
  refine (walk im0 sl0 l0 wi0 W hsc0 hrb0).mono fun e W' ⟨he, bel⟩ => ?_
  subst he
  exact ⟨_, rfl, _, _, _, [], _, [], hW', trodAll_mk1 (shut_bool Try.underlying4 _), (trodAll_cons_mk (Below.trod laidOut (by kernel_rfl) (of_decide_eq_true (by kernel_rfl)) h0 bel (by obtain ⟨f, hf⟩ := h0; exact DataW.trod_lt _ _ _ _ hf)) trodAll_mk0), rfl, bel.frame _, fun h => by cases h⟩

theorem proved : Rows.SlotDoesSaid :=
  OpenClaim.holds_of_wide 6 Try.f6 rfl rfl rfl rfl rfl rfl rfl ⟨rfl, rfl, rfl, rfl, rfl⟩ rfl rfl rfl rfl rfl (by kernel_rfl) Try.func6 (by kernel_rfl)
    (of_decide_eq_true (by kernel_rfl)) (by unfold Func.isWrapper; first | (rw [if_pos (by decide +kernel)]; kernel_rfl) | (rw [if_neg (by decide +kernel)]; exact ⟨rfl, rfl⟩))
    (fun os started H enc _ => lifted os started H enc)
#print axioms proved
end Go.Proofs.Ytopiopomioglfaa.slotDoes
