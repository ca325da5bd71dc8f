/- Whatever first record and script come in, the call of BootDoes returns true and leaves its arguments as they were. Its condition: the package-level variable boot.errNone holds what its initialiser lays; the card of it stands at the end. -/
import Derived.Test.YtgcbmjflodgnbaaGreatDoorM13
import Derived.Test.YtgcbmjflodgnbaaGreatDoorM14
import Derived.Test.YtgcbmjflodgnbaaGreatDoorM15
import Derived.Test.YtgcbmjflodgnbaaGreatDoorM10
import Derived.Test.YtgcbmjflodgnbaaGreatDoorM02
import Derived.Deep.DeepCutAuto
import Derived.Deep.CutBlock
import Derived.IntWalk
import Derived.Test.YtgcbmjflodgnbaaGreatDoorCards
import Derived.Test.YtgcbmjflodgnbaaGreatDoorTie
import Derived.ProofKit
import Derived.OpenShut
import Derived.ShutString
import Derived.ChangeOld
import Derived.Deep.DeepHandedRow
import Derived.Stop.LaidErr
namespace Go.Proofs.YtgcbmjflodgnbaaGreatDoor.bootDoes
set_option maxRecDepth 100000
open Go Go.RowKit Go.ChangeShapes Go.WideShapes Go.ChangeAt
open Go.ChangeMaps (open_string shut_string)
set_option linter.unusedVariables false

theorem opC_cells {w : World} {k : Nat} {o : OpB} (h : w.heap[k]? = some (.cells (opC o) 63 (0, 0))) : w.cell? ⟨k, 0, none⟩ = some (.int .i64 o.k) ∧ w.cell? ⟨k, 1, none⟩ = some (.int .i64 o.n) ∧ w.cell? ⟨k, 2, none⟩ = some (.int .i64 o.a) ∧ w.cell? ⟨k, 3, none⟩ = some (.int .u8 (o.m.toNat : Int)) ∧
    w.cell? ⟨k, 4, none⟩ = some (.int .i64 o.r.slot) ∧ w.cell? ⟨k, 5, none⟩ = some (.bool o.r.up) ∧ w.cell? ⟨k, 6, none⟩ = some (.int .i64 o.r.count) ∧ w.cell? ⟨k, 7, none⟩ = some (.int .i64 o.r.s0) ∧ w.cell? ⟨k, 8, none⟩ = some (.int .i64 o.r.s1) := by
  unfold opC at h
  refine ⟨?_, ?_, ?_, ?_, ?_, ?_, ?_, ?_, ?_⟩ <;> (rw [cell_of_row _ _ _ _ _ _ h]; rfl)
theorem arm_n (s : FS) (n k : Int) (m : UInt8) : (s.arm n k m).1.n = s.n := by
  unfold FS.arm
  (repeat' split) <;> rfl
/-- What the script's call leaves. -/
def AftD (w wx : World) (s6 s5 s8 s12 s13 : Value) (p' bb' cb' : Nat) (j : Nat) : Prop :=
  ∃ (e : Int) (g q p bb cb g' q' : Nat) (s : FS) (t : BS), s6 = .pointer (some ⟨g, 0, none⟩) ∧ s5 = .pointer (some ⟨p, 0, none⟩) ∧ s8 = .pointer (some ⟨g', 0, none⟩) ∧ s12 = .int .i64 e ∧ s13 = .int .i64 e ∧ Two w wx g q p bb cb g' q' p' bb' cb' s t (j + 1)
set_option maxHeartbeats 16000000 in
theorem walk (first : BR) (wf : first.Wf) {v : Value} (l : List OpB) (w : World) (hl : ScriptB w v l) (a0 : Addr) (hE : ErrAt w a0) : Calls Tryz.prog 7 #[brV first, v] w fun e w' => e = .returned (.bool true) ∧ Below w.heap.size w w' := by
  obtain ⟨ao, cap, rfl, hlen, hcells⟩ := hl
  unfold maxLen at hlen
  have HCELLS := Box.mk hcells; clear hcells
  have FX := Box.mk (fun w hE => bfixed_any a0 w hE)
  have HE := Box.mk hE; have GE := Box.mk hE.lt
  clear hE
  have LD := Box.mk (fun w => laidb_any first w)
  have FM := Box.mk (laid_fmt first)
  generalize (bfs 3).bformat 1 first = RF at LD FM
  obtain ⟨s1, t1, e1⟩ := RF
  unfold LaidB brV brC at *
  dsimp only at LD
  obtain ⟨z0, hz0⟩ : ∃ z, z = w.heap.size := ⟨_, rfl⟩
  obtain ⟨W0, hW0⟩ : ∃ W, W = w.alloc (.cells #[.int .i64 first.slot, .bool first.up, .int .i64 first.count, .int .i64 first.s0, .int .i64 first.s1] 24) := ⟨_, rfl⟩
  have R0 := Box.mk (show W0.heap[z0]? = some (.cells #[.int .i64 first.slot, .bool first.up, .int .i64 first.count, .int .i64 first.s0, .int .i64 first.s1] 24 (0, 0)) by rw [hW0, hz0]; exact heap_alloc_new _ _)
  have B0 := Box.mk (show Below w.heap.size w W0 by rw [hW0]; exact (Below.refl _ _).alloc (Nat.le_refl _) _)
  go_enter Tryz.func7, Tryz.ntmps7
  go_upto_region 1 with (fail)
  rw [← hW0, ← hz0]
  clear hz0 hW0
  obtain ⟨⟨k0, k1, k2, k3, k4⟩, _⟩ := boot_cells (r := first) R0.out
  go_wp2_with fail
  clear k0 k1 k2 k3 k4 R0
  refine (LD.out W0).mono ?_
  rintro e w1 ⟨q, p, bb, cb, q', p', bb', cb', kv, lv, rfl, hb, hln, hf, hrf, hok, hc⟩
  have B1 := Box.mk (B0.out.trans (hb.mono B0.out.size))
  have LN := Box.mk hln; have HC := Box.mk hc; have SZ := Box.mk B0.out.size
  clear hb hln hf hrf hok hc LD B0
  have hc := HC.out
  rcases hc with ⟨_, rfl, rfl⟩ | ⟨he1, g, g', rfl, rfl, hbt, hrbt, hg, hg', hgn, hgn'⟩
  · clear HC FM
    go_wp2_with fail
    go_loopw [6, 8, 10] (fun lv kv _ wr => lv = .pointer none ∧ kv = .pointer none ∧ Below w.heap.size w wr) (fun _ _ _ _ => 0)
    case atStart => exact ⟨rfl, rfl, B1.out⟩
    case round =>
      obtain ⟨rfl, rfl, hb⟩ := hrel
      have BE := Box.mk hb
      clear hb
      go_wp2_with fail
      refine (FX.out _ (HE.out.below BE.out GE.out)).mono ?_
      rintro e w3 ⟨rfl, hb⟩
      have B3 := Box.mk (BE.out.trans (hb.mono BE.out.size))
      clear hb
      go_wp2_with fail
      go_ret
      exact ⟨rfl, B3.out⟩
  · have hmay : first.May := by
      by_cases h : first.May
      · exact h
      · have := FM.out.2 h
        simp only [Prod.mk.injEq] at this
        rw [he1] at this; exact absurd this.2.2 (by decide)
    obtain ⟨s1', ee, st1, inv1, hn3⟩ := FM.out.1 hmay
    simp only [Prod.mk.injEq] at ee
    obtain ⟨rfl, rfl, _⟩ := ee
    have TW := Box.mk (show Two w w1 g q p bb cb g' q' p' bb' cb' s1 ⟨first, 1, 0, false⟩ 0 from ⟨hbt, hrbt, B1.out,
      fun k hk => by
        have := SZ.out
        rcases List.mem_cons.1 hk with rfl | hk
        · omega
        · have := LN.out.lo k hk; omega,
      fun k hk => by
        have := SZ.out
        rcases List.mem_cons.1 hk with rfl | hk
        · omega
        · have := LN.out.lo' k hk; omega,
      fun k hk hm => by
        rcases List.mem_cons.1 hk with rfl | hk
        · exact hgn' hm
        · rcases List.mem_cons.1 hm with rfl | hm
          · exact hgn hk
          · exact LN.out.ap k hk hm, by show 0 < 2; omega, by show 1 ≤ _; omega, hn3⟩)
    clear hn3 HC FM hbt hrbt hg hg' hgn hgn' st1 inv1 hmay he1 LN SZ B1
    go_wp2_with fail
    go_loopw [6, 5, 8, 10] (fun s6 s5 s8 i wr => ∃ (j : Nat) (s : FS) (t : BS) (g q p bb cb g' q' : Nat), j ≤ l.length ∧ j ≤ 100 ∧ s6 = .pointer (some ⟨g, 0, none⟩) ∧ s5 = .pointer (some ⟨p, 0, none⟩) ∧ s8 = .pointer (some ⟨g', 0, none⟩) ∧ i = .int .i64 j ∧ Two w wr g q p bb cb g' q' p' bb' cb' s t j) (fun _ _ _ i _ => l.length - (intOf i).toNat)
    case atStart => exact ⟨0, _, _, g, q, p, bb, cb, g', q', Nat.zero_le _, by omega, rfl, rfl, rfl, rfl, TW.out⟩
    case round =>
      clear TW
      obtain ⟨j, s, t, g, q, p, bb, cb, g', q', hj, hj100, rfl, rfl, rfl, rfl, hr⟩ := hrel
      by_cases hlt : j < l.length
      · by_cases h100 : j < 100
        · have hltI : (j : Int) < (l.length : Int) := by omega
          have h100I : (j : Int) < 100 := by omega
          obtain ⟨o, ho⟩ : ∃ s, l[j]? = some s := ⟨_, List.getElem?_eq_getElem hlt⟩
          obtain ⟨a, rfl, HO⟩ := HCELLS.out j o ho
          have HLT := Box.mk (And.intro hlt h100)
          obtain ⟨q0, q1, q2, q3, q4, q5, q6, q7, q8⟩ := (HO.below hr.be HO.lt).flat
          have OK := Box.mk HO.ok
          obtain ⟨wk, hwk⟩ : ∃ wk, wk = wr.alloc (.cells (opC o) 63) := ⟨_, rfl⟩
          have OB : Box (wk.heap[wr.heap.size]? = some (.cells (opC o) 63 (0, 0))) := ⟨by rw [hwk]; exact heap_alloc_new _ _⟩
          have RR := Box.mk (hr.keep (show Upd [] wr wk by rw [hwk]; exact (Upd.refl [] wr).alloc _))
          have NB : Box (wr.heap.size ∉ [g, q, p, bb, cb] ∧ wr.heap.size ∉ [g', q', p', bb', cb']) := ⟨fun h => Nat.lt_irrefl _ (hr.bt.lt5 _ h), fun h => Nat.lt_irrefl _ (hr.rbt.lt5 _ h)⟩
          obtain ⟨ob, hob⟩ : ∃ z, z = wr.heap.size := ⟨_, rfl⟩
          rw [← hob] at OB NB
          clear HO hr ho hlt h100
          unfold opC at hwk
          go_upto_region 8 with (fail)
          rw [← hwk, ← hob]
          clear hwk hob q0 q1 q2 q3 q4 q5 q6 q7 q8
          obtain ⟨z0, z1, z2, z3, z4, z5, z6, z7, z8⟩ := opC_cells OB.out
          go_upto_block 2 with (fail)
          go_cut [6, 5, 8, 12, 13] (fun s6 s5 s8 s12 s13 wx => AftD w wx s6 s5 s8 s12 s13 p' bb' cb' j)
          case first =>
            by_cases c0 : o.k = 0
            · as_aux_lemma =>
              have hk0 : (o.k == 0) = true := by rw [beq_iff_eq]; exact c0
              have PT := Box.mk (bput_any g q p bb cb 1 s t o.r wk RR.out.bt RR.out.b2 (by have := RR.out.num; have := HLT.out.2; omega))
              have RP := Box.mk (fun w h => rbput_any g' q' p' bb' cb' 1 s t o.r w h RR.out.b2 (by have := RR.out.num; have := HLT.out.2; omega))
              have BB := Box.mk (bput_bs s 1 t o.r RR.out.b2)
              have N3 := Box.mk ((FS.bput_ok RR.out.bt.ok 1 t o.r).2.trans RR.out.n3)
              generalize s.bput 1 t o.r = R at PT RP BB N3
              obtain ⟨s2, t2, e2⟩ := R
              unfold brV brC at PT RP
              dsimp only at PT RP BB N3
              clear c0
              go_wp2_with fail
              refine PT.out.mono ?_
              rintro e w5 ⟨rfl, hbt, hu⟩
              have BT5 := Box.mk hbt; have U5 := Box.mk hu
              have OB5 := Box.mk ((hu.block ob (Array.getElem?_eq_some_iff.1 OB.out).1 (by have := NB.out.1; simp at this ⊢; omega)).trans OB.out)
              have RB5 := Box.mk (RR.out.doc hu (by simp))
              clear hbt hu z0 z1 z2 z3 z4 z5 z6 z7 z8 PT
              obtain ⟨z0, z1, z2, z3, z4, z5, z6, z7, z8⟩ := opC_cells OB5.out
              go_wp2_with fail
              refine (RP.out _ RB5.out).mono ?_
              rintro e w6 ⟨rfl, hrb, hu⟩
              have TW := Box.mk (RR.out.step (j' := j + 1) BT5.out U5.out (by simp) hrb hu (by simp) BB.out.1 (by have := BB.out.2; have := RR.out.num; omega) N3.out)
              clear hrb hu RP RB5 BT5 U5 z0 z1 z2 z3 z4 z5 z6 z7 z8
              go_wp2_with fail
              go_meet
              exact ⟨e2, g, q, p, bb, cb, g', q', s2, t2, rfl, rfl, rfl, rfl, rfl, TW.out⟩
            · have hk0 : (o.k == 0) = false := by rw [beq_eq_false_iff_ne]; exact c0
              clear c0
              by_cases c1 : o.k = 1
              · as_aux_lemma =>
                have hk1 : (o.k == 1) = true := by rw [beq_iff_eq]; exact c1
                have AR := Box.mk (arm_any p bb cb s o.n o.a o.m wk RR.out.bt.f OK.out.a)
                have RA := Box.mk (fun w h => rarm_any p' bb' cb' s o.n o.a o.m w h OK.out.a)
                clear c1
                go_wp2_with fail
                refine AR.out.mono ?_
                rintro e w5 ⟨rfl, hf, hu⟩
                have AO := Box.mk (FS.arm_ok RR.out.bt.ok o.n o.a o.m OK.out.n.2 OK.out.a.2)
                have AN := Box.mk (arm_n s o.n o.a o.m)
                have BT5 := Box.mk (RR.out.bt.flash hf AO.out (congrArg List.length AN.out) (hu.mono (T := [p, bb, cb]) (by simp)))
                have U5 := Box.mk hu
                have OB5 := Box.mk ((hu.block ob (Array.getElem?_eq_some_iff.1 OB.out).1 (by have := NB.out.1; simp at this ⊢; omega)).trans OB.out)
                have RB5 := Box.mk (RR.out.doc hu (by simp))
                clear hf hu z0 z1 z2 z3 z4 z5 z6 z7 z8 AR
                obtain ⟨z0, z1, z2, z3, z4, z5, z6, z7, z8⟩ := opC_cells OB5.out
                go_wp2_with fail
                refine (RA.out _ RB5.out.f).mono ?_
                rintro e w6 ⟨rfl, hf, hu⟩
                have TW := Box.mk (RR.out.step (j' := j + 1) BT5.out U5.out (by simp) (RB5.out.flash hf AO.out (congrArg List.length AN.out) (hu.mono (T := [p', bb', cb']) (by simp))) hu (by simp) RR.out.b2 (by have := RR.out.num; omega) ((congrArg List.length AN.out).trans RR.out.n3))
                clear hf hu RA RB5 BT5 U5 z0 z1 z2 z3 z4 z5 z6 z7 z8
                go_wp2_with fail
                go_meet
                exact ⟨_, g, q, p, bb, cb, g', q', _, t, rfl, rfl, rfl, rfl, rfl, TW.out⟩
              · have hk1 : (o.k == 1) = false := by rw [beq_eq_false_iff_ne]; exact c1
                clear c1
                by_cases c2 : o.k = 2
                · as_aux_lemma =>
                  have hk2 : (o.k == 2) = true := by rw [beq_iff_eq]; exact c2
                  have RV := Box.mk (revive_any p bb cb s wk RR.out.bt.f)
                  have RRV := Box.mk (fun w h => rrevive_any p' bb' cb' s w h)
                  have BK : Box (s.back.Ok ∧ s.back.n.length = 3 ∧ In s.back.n.length ((1 : Nat) : Int) 2) := ⟨⟨by simp [FS.back], RR.out.bt.ok.keep, RR.out.bt.ok.len, RR.out.bt.ok.few⟩, RR.out.n3, RR.out.bt.i⟩
                  clear c2 z1 z2 z3 z4 z5 z6 z7 z8
                  go_wp2_with fail
                  refine RV.out.mono ?_
                  rintro e w5 ⟨rfl, hf, hu⟩
                  have F5 := Box.mk hf; have U5 := Box.mk hu
                  have RB5 := Box.mk (RR.out.doc hu (by simp))
                  clear hf hu RV
                  go_wp2_with fail
                  refine (RRV.out _ RB5.out.f).mono ?_
                  rintro e w6 ⟨rfl, hf, hu⟩
                  have RB6 := Box.mk (RB5.out.flash hf BK.out.1 (by rw [BK.out.2.1, RR.out.n3]) (hu.mono (T := [p', bb', cb']) (by simp)))
                  have AP5 := Box.mk (fun k (hk : k ∈ [g, q, p, bb, cb]) => RR.out.ap' k hk)
                  have F6 := Box.mk (F5.out.upd hu (by have := AP5.out p (by simp); simp at this ⊢; omega) (by have := AP5.out bb (by simp); simp at this ⊢; omega) (by have := AP5.out cb (by simp); simp at this ⊢; omega))
                  have BE6 := Box.mk (Upd.below (Upd.below RR.out.be U5.out (fun k hk => RR.out.lo k (by simp at hk ⊢; omega)) RR.out.be.size) hu (fun k hk => RR.out.lo' k (by simp at hk ⊢; omega)) (Nat.le_trans RR.out.be.size U5.out.size))
                  clear hf hu RRV RB5 F5 U5
                  go_wp2_with fail
                  refine (two_any p bb cb s.back _ F6.out BK.out.2.1).mono ?_
                  rintro e w7 ⟨q2, rfl, hpa, hq2, hb⟩
                  have F7 := Box.mk (F6.out.upd (Upd.of_below (S := []) hb) (by simp) (by simp) (by simp))
                  have RB7 := Box.mk (RB6.out.keep (Upd.of_below hb))
                  have P7 := Box.mk hpa
                  have BE7 := Box.mk (BE6.out.trans (hb.mono BE6.out.size))
                  have NQ : Box (q2 ∉ [p, bb, cb] ∧ w.heap.size ≤ q2 ∧ q2 ∉ [g', q', p', bb', cb']) := ⟨by have := F6.out.lt; simp only [List.mem_cons, List.not_mem_nil, or_false, not_or]; omega, Nat.le_trans BE6.out.size hq2, fun h => by have := RB6.out.lt5 _ h; omega⟩
                  clear hpa hq2 hb F6 RB6 BE6
                  go_wp2_with fail
                  refine (bopen_any a0 q2 p bb cb 1 s.back _ (HE.out.below BE7.out GE.out) F7.out BK.out.1 P7.out BK.out.2.2 NQ.out.1).mono ?_
                  rintro e w8 ⟨hb, hm⟩
                  have RB8 := Box.mk (RB7.out.keep (Upd.of_below hb))
                  have BE8 := Box.mk (BE7.out.trans (hb.mono BE7.out.size))
                  have RO := Box.mk (fun w9 (h : RBtS w9 1 g' q' p' bb' cb' s.back t) => rbopen_any q' p' bb' cb' 1 s.back w9 h.f BK.out.1 h.pa BK.out.2.2 (fun hm => h.ap.hq (List.mem_cons_of_mem _ hm)))
                  unfold RBOpn at RO
                  have LT7 := Box.mk RB7.out.lt5
                  have SZ7 := Box.mk BE7.out.size
                  clear hb F7 P7 RB7 BE7
                  have y0 := RB8.out.bt.cells.1
                  cases hop : s.back.bopen 1 with
                  | error x =>
                    rw [hop] at hm RO
                    dsimp only at hm RO
                    subst hm
                    have hx := bopen_err hop
                    have hxb : (x != 0) = true := by rw [bne_iff_ne]; exact hx
                    clear hop hx
                    go_wp2_with fail
                    refine (RO.out _ RB8.out).mono ?_
                    rintro e w9 ⟨hb, rfl⟩
                    have BE9 := Box.mk (BE8.out.trans (hb.mono BE8.out.size))
                    clear hb RO y0 z0
                    go_wp2_with fail
                    refine (FX.out _ (HE.out.below BE9.out GE.out)).mono ?_
                    rintro e w4 ⟨rfl, hb⟩
                    have B4 := Box.mk (BE9.out.trans (hb.mono BE9.out.size))
                    clear hb
                    go_wp2_with fail
                    go_ret
                    exact ⟨rfl, B4.out⟩
                  | ok t2 =>
                    rw [hop] at hm RO
                    dsimp only at hm RO
                    obtain ⟨g2, rfl, hbt, hg2⟩ := hm
                    have BT8 := Box.mk hbt
                    have BS2 := Box.mk (bopen_bs hop)
                    clear hop hbt
                    go_wp2_with fail
                    refine (RO.out _ RB8.out).mono ?_
                    rintro e w9 ⟨hb, g3, rfl, hrb, hg3⟩
                    have BT9 := Box.mk (BT8.out.keep (Upd.of_below hb))
                    have BE9 := Box.mk (BE8.out.trans (hb.mono BE8.out.size))
                    have TW := Box.mk (show Two w w9 g2 q2 p bb cb g3 q' p' bb' cb' s.back t2 (j + 1) from ⟨BT9.out, hrb, BE9.out,
                      all5 (Nat.le_trans SZ7.out hg2) NQ.out.2.1 (RR.out.lo p (by simp)) (RR.out.lo bb (by simp)) (RR.out.lo cb (by simp)),
                      all5 (Nat.le_trans BE8.out.size hg3) (RR.out.lo' q' (by simp)) (RR.out.lo' p' (by simp)) (RR.out.lo' bb' (by simp)) (RR.out.lo' cb' (by simp)),
                      fun k hk hm => by
                        rcases List.mem_cons.1 hk with rfl | hk
                        · have := BT8.out.lt5 _ hm; omega
                        · have h1 := LT7.out k (List.mem_cons_of_mem _ hk)
                          rcases List.mem_cons.1 hm with rfl | hm
                          · omega
                          · rcases List.mem_cons.1 hm with rfl | hm
                            · exact NQ.out.2.2 (List.mem_cons_of_mem _ hk)
                            · exact RR.out.ap k (List.mem_cons_of_mem _ hk) (List.mem_cons_of_mem _ (List.mem_cons_of_mem _ hm)), BS2.out.1, by have := BS2.out.2; omega, BK.out.2.1⟩)
                    clear hb hrb hg3 RO y0 z0 hg2
                    go_wp2_with fail
                    go_meet
                    exact ⟨0, g2, q2, p, bb, cb, g3, q', s.back, t2, rfl, rfl, rfl, rfl, rfl, TW.out⟩
                · have hk2 : (o.k == 2) = false := by rw [beq_eq_false_iff_ne]; exact c2
                  clear c2
                  by_cases c3 : o.k = 3
                  · as_aux_lemma =>
                    have hk3 : (o.k == 3) = true := by rw [beq_iff_eq]; exact c3
                    clear c3 z1 z2 z3 z4 z5 z6 z7 z8
                    have CLN := Box.mk (clone_any p bb cb s wk RR.out.bt.f RR.out.bt.ok)
                    go_wp2_with fail
                    refine CLN.out.mono ?_
                    rintro e w5 ⟨p2, bb2, cb2, rfl, hf, h1, h2, h3, hb⟩
                    have F5 := Box.mk hf
                    have R5 := Box.mk (RR.out.keep (Upd.of_below hb))
                    have NW5 := Box.mk (And.intro h1 (And.intro h2 h3))
                    clear hf h1 h2 h3 hb CLN
                    go_wp2_with fail
                    refine (two_any p2 bb2 cb2 s _ F5.out RR.out.n3).mono ?_
                    rintro e w6 ⟨q2, rfl, hpa, hq2, hb⟩
                    have F6 := Box.mk (F5.out.upd (Upd.of_below (S := []) hb) (by simp) (by simp) (by simp))
                    have R6 := Box.mk (R5.out.keep (Upd.of_below hb))
                    have P6 := Box.mk hpa
                    have NW6 := Box.mk (And.intro F5.out.lt hq2)
                    clear hpa hq2 hb F5
                    go_wp2_with fail
                    refine (bclone_any g q q2 t _ R6.out.bt.bt).mono ?_
                    rintro e w7 ⟨g2, rfl, hg2, hbt2, hb⟩
                    have F7 := Box.mk (F6.out.upd (Upd.of_below (S := []) hb) (by simp) (by simp) (by simp))
                    have R7 := Box.mk (R6.out.keep (Upd.of_below hb))
                    have NW7 := Box.mk (And.intro P6.out.lt hg2)
                    have NB7 := Box.mk (show (∀ k, k ∈ [g2, q2, p2, bb2, cb2] → wk.heap.size ≤ k) ∧ Bap g2 q2 p2 bb2 cb2 from by
                      have h1 := NW5.out; have h2 := NW6.out; have h3 := NW7.out; clear NW5 NW6 NW7
                      obtain ⟨a1, a2, a3⟩ := h1
                      obtain ⟨⟨b1, b2, b3⟩, b4⟩ := h2
                      obtain ⟨c1, c2⟩ := h3
                      exact ⟨all5 (by omega) (by omega) a1 a2 a3, ⟨by simp only [List.mem_cons, List.not_mem_nil, or_false, not_or]; exact ⟨by omega, by omega, by omega, by omega⟩, by simp only [List.mem_cons, List.not_mem_nil, or_false, not_or]; exact ⟨by omega, by omega, by omega⟩⟩⟩)
                    have BT7 := Box.mk (show BtS w7 1 g2 q2 p2 bb2 cb2 s t from ⟨NB7.out.2, F7.out, RR.out.bt.ok, P6.out.upd (Upd.of_below (S := []) hb) (by simp), RR.out.bt.i, hbt2⟩)
                    have AW : Box (∀ k, k ∈ [g2, q2, p2, bb2, cb2] → k ∉ [g, q, p, bb, cb] ∧ k ∉ [g', q', p', bb', cb']) := ⟨fun k hk => ⟨fun h => by have := RR.out.bt.lt5 k h; have := NB7.out.1 k hk; omega, fun h => by have := RR.out.rbt.lt5 k h; have := NB7.out.1 k hk; omega⟩⟩
                    have PT := Box.mk (bput_any g q p bb cb 1 s t BR.zero w7 R7.out.bt RR.out.b2 (by have := RR.out.num; have := HLT.out.2; omega))
                    generalize s.bput 1 t BR.zero = R at PT
                    obtain ⟨s2, t2, e2⟩ := R
                    unfold brV brC BR.zero at PT
                    dsimp only at PT
                    clear hg2 hbt2 hb F6 F7 P6 R5 R6
                    go_wp2_with fail
                    refine PT.out.mono ?_
                    rintro e w8 ⟨rfl, hbt, hu⟩
                    have BO8 := Box.mk hbt
                    have BT8 := Box.mk (BT7.out.away hu (fun k hk h => (AW.out k hk).1 (by simp at h ⊢; omega)))
                    have RB8 := Box.mk (R7.out.doc hu (by simp))
                    have BE8 := Box.mk (Upd.below R7.out.be hu (fun k hk => RR.out.lo k (by simp at hk ⊢; omega)) R7.out.be.size)
                    clear hbt hu PT BT7
                    have ER := Box.mk (erase_any p bb cb s2 1 _ BO8.out.f BO8.out.ok)
                    go_wp2_with fail
                    refine ER.out.mono ?_
                    rintro e w9 ⟨rfl, hf, hu⟩
                    have TW := Box.mk (show Two w w9 g2 q2 p2 bb2 cb2 g' q' p' bb' cb' s t (j + 1) from ⟨BT8.out.away hu (fun k hk h => (AW.out k hk).1 (by simp at h ⊢; omega)), RB8.out.away hu (fun k hk h => RR.out.ap k hk (by simp at h ⊢; omega)), Upd.below BE8.out hu (fun k hk => RR.out.lo k (by simp at hk ⊢; omega)) BE8.out.size,
                      fun k hk => Nat.le_trans RR.out.be.size (NB7.out.1 k hk), RR.out.lo', fun k hk h => (AW.out k h).2 hk, RR.out.b2, by have := RR.out.num; omega, RR.out.n3⟩)
                    clear hf hu ER BT8 RB8 z0
                    go_wp2_with fail
                    go_meet
                    exact ⟨0, g2, q2, p2, bb2, cb2, g', q', s, t, rfl, rfl, rfl, rfl, rfl, TW.out⟩
                  · as_aux_lemma =>
                    have hk3 : (o.k == 3) = false := by rw [beq_eq_false_iff_ne]; exact c3
                    have TW := Box.mk (show Two w wk g q p bb cb g' q' p' bb' cb' s t (j + 1) from ⟨RR.out.bt, RR.out.rbt, RR.out.be, RR.out.lo, RR.out.lo', RR.out.ap, RR.out.b2, by have := RR.out.num; omega, RR.out.n3⟩)
                    clear c3
                    go_wp2_with fail
                    go_meet
                    exact ⟨0, g, q, p, bb, cb, g', q', s, t, rfl, rfl, rfl, rfl, rfl, TW.out⟩
          case rest => as_aux_lemma =>
            clear RR NB OB z0 z1 z2 z3 z4 z5 z6 z7 z8
            obtain ⟨e, g, q, p, bb, cb, g', q', s, t, rfl, rfl, rfl, rfl, rfl, tw⟩ := hcut
            have TW := Box.mk tw
            have RB := Box.mk tw.rbt.bt
            have IM : Box (∀ w1, Upd [] wc.drew w1 → Calls Tryz.prog 33 #[.pointer (some ⟨p, 0, none⟩)] w1 fun e w' => e = .returned (.string ⟨s.b.toArray⟩) ∧ Below w1.heap.size w1 w') := ⟨fun w1 hu => (image_any p bb cb s w1 (TW.out.bt.keep ((Upd.refl [] wc).drew.trans hu)).f).mono fun _ _ h => ⟨h.1, h.2 ▸ Below.refl _ _⟩⟩
            have ST : Box (∀ w1, Upd [] wc.drew w1 → Calls Tryz.prog 34 #[.pointer (some ⟨p, 0, none⟩)] w1 fun e w' => e = .returned (.int .i64 s.steps) ∧ Below w1.heap.size w1 w') := ⟨fun w1 hu => (steps_any p bb cb s w1 (TW.out.bt.keep ((Upd.refl [] wc).drew.trans hu)).f).mono fun _ _ h => ⟨h.1, h.2 ▸ Below.refl _ _⟩⟩
            have GT : Box (∀ w1, Upd [] wc.drew w1 → Calls Tryz.prog 14 #[.pointer (some ⟨g, 0, none⟩)] w1 fun e w' => e = .returned (.agg #[.int .i64 t.r.slot, .bool t.r.up, .int .i64 t.r.count, .int .i64 t.r.s0, .int .i64 t.r.s1]) ∧ Below w1.heap.size w1 w') := ⟨fun w1 hu => bget_any g q t w1 (TW.out.bt.keep ((Upd.refl [] wc).drew.trans hu)).bt⟩
            have SQ : Box (∀ w1, Upd [] wc.drew w1 → Calls Tryz.prog 13 #[.pointer (some ⟨g, 0, none⟩)] w1 fun e w' => e = .returned (.int .i64 (t.seq : Int)) ∧ Below w1.heap.size w1 w') := ⟨fun w1 hu => (bseq_any g q t w1 (TW.out.bt.keep ((Upd.refl [] wc).drew.trans hu)).bt).mono fun _ _ h => ⟨h.1, h.2 ▸ Below.refl _ _⟩⟩
            have DE : Box (∀ w1, Upd [] wc.drew w1 → Calls Tryz.prog 22 #[.pointer (some ⟨g, 0, none⟩)] w1 fun e w' => e = .returned (.bool t.dead) ∧ Below w1.heap.size w1 w') := ⟨fun w1 hu => (bdead_any g q t w1 (TW.out.bt.keep ((Upd.refl [] wc).drew.trans hu)).bt).mono fun _ _ h => ⟨h.1, h.2 ▸ Below.refl _ _⟩⟩
            have EQB := Box.mk (fun w => (eq_rec t.r t.r w).trans (by rw [decide_eq_true rfl]))
            obtain ⟨bcap, ccap, _, _, hrow⟩ := tw.rbt.f.st
            have ROW := Box.mk (show wc.drew.heap[p']? = _ from hrow)
            have CV : Box (∀ w1, Upd [] wc.drew w1 → (convert 42 9 (.slice (some ⟨bb', 0, none⟩) s.b.length bcap)).run Tryz.prog w1 = .ok (.string ⟨s.b.toArray⟩) w1) := ⟨fun w1 hu => run_bytes_at Tryz.prog w1 bb' 0 bcap s.b 42 9 5 _ rfl Tryz.underlying42 Tryz.underlying5 Tryz.underlying9 (fun k u hk => by rw [Nat.zero_add]; exact ((TW.out.rbt.keep ((Upd.refl [] wc).drew.trans hu)).f.byte k u hk).1)⟩
            obtain ⟨X, hX⟩ : ∃ X : ByteArray, X = ⟨s.b.toArray⟩ := ⟨_, rfl⟩
            rw [← hX] at IM CV
            clear hX hrow tw
            go_upto_region 29 with (fail)
            refine Gd.wp_region_mixS [] (fun _ => True) (Stb.tt) (trivial) (fun _ h => by cases h) 48 [.flo, .flo, .flo, .flo, .flo, .cha, .flo, .flo, .flo, .flo, .flo, .flo, .flo, .flo, .flo, .cha, .flo, .flo, .flo, .flo, .flo, .flo, .flo, .flo, .cha, .flo, .flo, .flo, .flo, .flo, .flo, .flo, .flo, .cha, .flo, .flo, .flo, .flo, .flo, .flo, .flo, .flo, .cha, .flo, .flo, .flo, .flo, .flo] (by kernel_rfl) (by kernel_rfl) rfl ?_
            simp only [List.take, List.zip, List.zipWith]
            try go_frame
            refine Gd.yes (by kernel_rfl) (gm_move (.tmp 12) (.inl rfl) (.int .i64 e) rfl (gm_nil ?_))
            try go_frame
            refine Gd.yes (by kernel_rfl) (gm_move (.tmp 13) (.inl rfl) (.int .i64 e) rfl (gm_nil ?_))
            try go_frame
            refine Gd.yes (by kernel_rfl) (gm_flo (.bool false) (fun w1 hw1 => ?_) (gm_nil ?_))
            · go_simp
            try go_frame
            refine Gd.yes (by kernel_rfl) (gm_move (.tmp 138) (.inl rfl) (.bool false) rfl (gm_nil ?_))
            try go_frame
            refine Gd.yes (by kernel_rfl) (gm_move (.tmp 5) (.inl rfl) (.pointer (some ⟨p, 0, none⟩)) rfl (gm_nil ?_))
            try go_frame
            refine Gd.yes (by kernel_rfl) (gm_call [.pointer (some ⟨p, 0, none⟩)] (by kernel_rfl) rfl rfl (Stb.tt) (fun w1 hw1 hF1 => (IM.out w1 hw1.upd).mono ?_))
            rintro e w2 ⟨rfl, hb⟩
            refine ⟨_, rfl, hb, gm_nil ?_⟩
            try go_frame
            refine Gd.yes (by kernel_rfl) (gm_move (.tmp 7) (.inl rfl) ((.pointer (some ⟨p', 0, none⟩))) rfl (gm_nil ?_))
            try go_frame
            refine Gd.yes (by kernel_rfl) (gm_flo ((.pointer (some ⟨p', 0, none⟩))) (fun w1 hw1 => ?_) (gm_nil ?_))
            · go_simp
            try go_frame
            refine Gd.yes (by kernel_rfl) (gm_flo ((.pointer (some ⟨p', 0, none⟩))) (fun w1 hw1 => ?_) (gm_nil ?_))
            · go_simp
            try go_frame
            refine Gd.yes (by kernel_rfl) (gm_flo (.slice (some ⟨bb', 0, none⟩) s.b.length bcap) (fun w1 hw1 => ?_) (gm_nil ?_))
            · have e1 : w1.cell? ⟨p', 0, none⟩ = some (.slice (some ⟨bb', 0, none⟩) s.b.length bcap) := (cell_of_row _ _ _ _ _ _ (hw1.at (by simp) ROW.out)).trans rfl
              go_simp
            try go_frame
            refine Gd.yes (by kernel_rfl) (gm_flo (.string X) (fun w1 hw1 => ?_) (gm_nil ?_))
            · have hcv := CV.out w1 hw1.upd
              go_simp
            try go_frame
            refine Gd.yes (by kernel_rfl) (gm_flo (.bool false) (fun w1 hw1 => ?_) (gm_nil ?_))
            · go_simp
            try go_frame
            refine Gd.yes (by kernel_rfl) (gm_flo (.bool false) (fun w1 hw1 => ?_) (gm_nil ?_))
            · go_simp
            try go_frame
            refine Gd.yes (by kernel_rfl) (gm_move (.tmp 148) (.inl rfl) (.bool false) rfl (gm_nil ?_))
            try go_frame
            refine Gd.yes (by kernel_rfl) (gm_move (.tmp 5) (.inl rfl) (.pointer (some ⟨p, 0, none⟩)) rfl (gm_nil ?_))
            try go_frame
            refine Gd.yes (by kernel_rfl) (gm_call [.pointer (some ⟨p, 0, none⟩)] (by kernel_rfl) rfl rfl (Stb.tt) (fun w1 hw1 hF1 => (ST.out w1 hw1.upd).mono ?_))
            rintro e w2 ⟨rfl, hb⟩
            refine ⟨_, rfl, hb, gm_nil ?_⟩
            try go_frame
            refine Gd.yes (by kernel_rfl) (gm_move (.tmp 7) (.inl rfl) ((.pointer (some ⟨p', 0, none⟩))) rfl (gm_nil ?_))
            try go_frame
            refine Gd.yes (by kernel_rfl) (gm_flo ((.pointer (some ⟨p', 0, none⟩))) (fun w1 hw1 => ?_) (gm_nil ?_))
            · go_simp
            try go_frame
            refine Gd.yes (by kernel_rfl) (gm_flo (.pointer (some ⟨p', 2, none⟩)) (fun w1 hw1 => ?_) (gm_nil ?_))
            · go_simp
            try go_frame
            refine Gd.yes (by kernel_rfl) (gm_flo (.int .i64 s.steps) (fun w1 hw1 => ?_) (gm_nil ?_))
            · have e1 : w1.cell? ⟨p', 2, none⟩ = some (.int .i64 s.steps) := (cell_of_row _ _ _ _ _ _ (hw1.at (by simp) ROW.out)).trans rfl
              go_simp
            try go_frame
            refine Gd.yes (by kernel_rfl) (gm_flo (.bool false) (fun w1 hw1 => ?_) (gm_nil ?_))
            · go_simp
            try go_frame
            refine Gd.yes (by kernel_rfl) (gm_flo (.bool false) (fun w1 hw1 => ?_) (gm_nil ?_))
            · go_simp
            try go_frame
            refine Gd.yes (by kernel_rfl) (gm_move (.tmp 157) (.inl rfl) (.bool false) rfl (gm_nil ?_))
            try go_frame
            as_aux_lemma =>
              refine Gd.yes (by kernel_rfl) (gm_move (.tmp 6) (.inl rfl) (.pointer (some ⟨g, 0, none⟩)) rfl (gm_nil ?_))
              try go_frame
              refine Gd.yes (by kernel_rfl) (gm_call [.pointer (some ⟨g, 0, none⟩)] (by kernel_rfl) rfl rfl (Stb.tt) (fun w1 hw1 hF1 => (GT.out w1 hw1.upd).mono ?_))
              rintro e w2 ⟨rfl, hb⟩
              refine ⟨_, rfl, hb, gm_nil ?_⟩
              try go_frame
              refine Gd.yes (by kernel_rfl) (gm_move (.tmp 8) (.inl rfl) ((.pointer (some ⟨g', 0, none⟩))) rfl (gm_nil ?_))
              try go_frame
              refine Gd.yes (by kernel_rfl) (gm_flo ((.pointer (some ⟨g', 0, none⟩))) (fun w1 hw1 => ?_) (gm_nil ?_))
              · go_simp
              try go_frame
              refine Gd.yes (by kernel_rfl) (gm_flo (.pointer (some ⟨g', 1, none⟩)) (fun w1 hw1 => ?_) (gm_nil ?_))
              · go_simp
              try go_frame
              refine Gd.yes (by kernel_rfl) (gm_loadMB (.tmp 163) rfl g' 1 _ 59 RB.out.row (by simp) rfl t.r (fun j u h => by match j, h with | 0, h => exact h | 1, h => exact h | 2, h => exact h | 3, h => exact h | 4, h => exact h | _ + 5, h => simp [brC] at h) (gm_nil ?_))
              try go_frame
              refine Gd.yes (by kernel_rfl) (gm_flo (.bool false) (fun w1 hw1 => ?_) (gm_nil ?_))
              · have EQ := EQB.out
                go_simp
              try go_frame
              refine Gd.yes (by kernel_rfl) (gm_flo (.bool false) (fun w1 hw1 => ?_) (gm_nil ?_))
              · go_simp
              try go_frame
              refine Gd.yes (by kernel_rfl) (gm_move (.tmp 166) (.inl rfl) (.bool false) rfl (gm_nil ?_))
              try go_frame
              refine Gd.yes (by kernel_rfl) (gm_move (.tmp 6) (.inl rfl) (.pointer (some ⟨g, 0, none⟩)) rfl (gm_nil ?_))
              try go_frame
              refine Gd.yes (by kernel_rfl) (gm_call [.pointer (some ⟨g, 0, none⟩)] (by kernel_rfl) rfl rfl (Stb.tt) (fun w1 hw1 hF1 => (SQ.out w1 hw1.upd).mono ?_))
              rintro e w2 ⟨rfl, hb⟩
              refine ⟨_, rfl, hb, gm_nil ?_⟩
              try go_frame
              refine Gd.yes (by kernel_rfl) (gm_move (.tmp 8) (.inl rfl) ((.pointer (some ⟨g', 0, none⟩))) rfl (gm_nil ?_))
              try go_frame
              refine Gd.yes (by kernel_rfl) (gm_flo ((.pointer (some ⟨g', 0, none⟩))) (fun w1 hw1 => ?_) (gm_nil ?_))
              · go_simp
              try go_frame
              refine Gd.yes (by kernel_rfl) (gm_flo (.pointer (some ⟨g', 6, none⟩)) (fun w1 hw1 => ?_) (gm_nil ?_))
              · go_simp
              try go_frame
              refine Gd.yes (by kernel_rfl) (gm_flo (.int .i64 (t.seq : Int)) (fun w1 hw1 => ?_) (gm_nil ?_))
              · have e1 : w1.cell? ⟨g', 6, none⟩ = some (.int .i64 (t.seq : Int)) := (cell_of_row _ _ _ _ _ _ (hw1.at (by simp) RB.out.row)).trans rfl
                go_simp
              try go_frame
              refine Gd.yes (by kernel_rfl) (gm_flo (.bool false) (fun w1 hw1 => ?_) (gm_nil ?_))
              · go_simp
              try go_frame
              refine Gd.yes (by kernel_rfl) (gm_flo (.bool false) (fun w1 hw1 => ?_) (gm_nil ?_))
              · go_simp
              try go_frame
              refine Gd.yes (by kernel_rfl) (gm_move (.tmp 175) (.inl rfl) (.bool false) rfl (gm_nil ?_))
              try go_frame
              as_aux_lemma =>
                refine Gd.yes (by kernel_rfl) (gm_move (.tmp 6) (.inl rfl) (.pointer (some ⟨g, 0, none⟩)) rfl (gm_nil ?_))
                try go_frame
                refine Gd.yes (by kernel_rfl) (gm_call [.pointer (some ⟨g, 0, none⟩)] (by kernel_rfl) rfl rfl (Stb.tt) (fun w1 hw1 hF1 => (DE.out w1 hw1.upd).mono ?_))
                rintro e w2 ⟨rfl, hb⟩
                refine ⟨_, rfl, hb, gm_nil ?_⟩
                try go_frame
                refine Gd.yes (by kernel_rfl) (gm_move (.tmp 8) (.inl rfl) ((.pointer (some ⟨g', 0, none⟩))) rfl (gm_nil ?_))
                try go_frame
                refine Gd.yes (by kernel_rfl) (gm_flo ((.pointer (some ⟨g', 0, none⟩))) (fun w1 hw1 => ?_) (gm_nil ?_))
                · go_simp
                try go_frame
                refine Gd.yes (by kernel_rfl) (gm_flo (.pointer (some ⟨g', 8, none⟩)) (fun w1 hw1 => ?_) (gm_nil ?_))
                · go_simp
                try go_frame
                refine Gd.yes (by kernel_rfl) (gm_flo (.bool t.dead) (fun w1 hw1 => ?_) (gm_nil ?_))
                · have e1 : w1.cell? ⟨g', 8, none⟩ = some (.bool t.dead) := (cell_of_row _ _ _ _ _ _ (hw1.at (by simp) RB.out.row)).trans rfl
                  go_simp
                try go_frame
                refine Gd.yes (by kernel_rfl) (gm_flo (.bool false) (fun w1 hw1 => ?_) (gm_nil ?_))
                · go_simp
                try go_frame
                refine Gd.nil ?_
                intro w9 hw9 hF9
                simp only [List.drop]
                try go_frame
                have TW9 := Box.mk (TW.out.keep ((Upd.refl [] wc).drew.trans hw9.upd))
                clear hw9 hF9 TW RB IM ST GT SQ DE ROW CV
                go_wp2_with fail
                exact ⟨⟨j + 1, s, t, g, q, p, bb, cb, g', q', HLT.out.1, HLT.out.2, rfl, rfl, rfl, by go_num, TW9.out⟩, by have := HLT.out.1; simp [intOf]; omega⟩
        · have hltI : (j : Int) < (l.length : Int) := by omega
          have h100I : ¬ (j : Int) < 100 := by omega
          have RR := Box.mk hr
          clear hr
          go_wp2_with fail
          refine (FX.out _ (HE.out.below RR.out.be GE.out)).mono ?_
          rintro e w4 ⟨rfl, hb⟩
          have B4 := Box.mk (RR.out.be.trans (hb.mono RR.out.be.size))
          clear hb
          go_wp2_with fail
          go_ret
          exact ⟨rfl, B4.out⟩
      · have hltI : ¬ (j : Int) < (l.length : Int) := by omega
        have RR := Box.mk hr
        clear hr
        go_wp2_with fail
        refine (FX.out _ (HE.out.below RR.out.be GE.out)).mono ?_
        rintro e w4 ⟨rfl, hb⟩
        have B4 := Box.mk (RR.out.be.trans (hb.mono RR.out.be.size))
        clear hb
        go_wp2_with fail
        go_ret
        exact ⟨rfl, B4.out⟩
theorem own : ownKnob Tryz.prog.godebug = none := by kernel_rfl
theorem laidOut : laidOutB Tryz.prog = true := by kernel_rfl
theorem gE : Tryz.prog.globalNamed "farrier/boot.errNone" = some 0 := by kernel_rfl
theorem gEType : (Tryz.prog.globals[0]?).map (·.type) = some 93 := by kernel_rfl
theorem cellsS : Tryz.prog.cellsOf 174 = 1 := by kernel_rfl
theorem cells9 : Tryz.prog.cellsOf 9 = 1 := by kernel_rfl
theorem star : "*" ++ "errors.errorString" = "*errors.errorString" := by decide
theorem rowE (u : TypeId) (h : Tryz.prog.typeName? 3 u = some "*errors.errorString") : u = 152 :=
  typeName_ptr_named (nm := "errors.errorString") (by rw [star]; kernel_rfl) (by kernel_rfl) (by decide) u (by rw [star]; exact h)
noncomputable def low : Nat := (World.holding Tryz.prog default ⟨#[], #[], []⟩).heap.size
noncomputable def laidWorld (os : Os) : World :=
  let w0 := World.holding Tryz.prog os ⟨#[.cells #[.string ⟨#[110, 111, 32, 114, 101, 99, 111, 114, 100]⟩] 174], #[], []⟩
  { w0 with heap := w0.heap.modify 0 fun
      | .cells _ t frozen => .cells #[.iface 152 (.pointer (some ⟨low, 0, none⟩))] t frozen
      | o => o }
theorem laid_met (os : Os) (args : Array Value) : laidMet Tryz.prog Rows.bootDoesRow.laid ((laidWorld os).forCall (fun _ _ => 0) ⟨#[], args, []⟩).memory :=
  laidMet_of_run (ps := [.cell 0 0, .cell low 0]) 8 (by kernel_rfl) (by kernel_rfl) (by kernel_rfl)
theorem contract (H : Type) (enc : TypeId × Value → H) (W : World) (base : Nat) (args : Array Value) (ds gs : List (DataW H)) (before : List MemPlace)
    (hval0 : ∀ (j : Nat) t v, Tryz.f7.params[j]? = some t → args[j]? = some v → Value.okWide Tryz.prog W .any base t v)
    (hW : DataW.Whole enc Tryz.prog Tryz.f7.params.toList Rows.bootDoesSpec.vars false W args.toList ds gs before) (hL : laidMetH Tryz.prog Rows.bootDoesRow.laid W) :
    Calls Tryz.prog 7 args W fun e W' => ∃ v, e = .returned v ∧ Rows.bootDoesSpec.post enc Tryz.prog Tryz.f7 false true false false W args v W' := by
  have hval : ∀ (j : Nat) t v, Tryz.f7.params[j]? = some t → args[j]? = some v → Value.okWide Tryz.prog W .any base t v := hval0
  obtain ⟨a0, s9, hv9, hc9, hs9, hz9⟩ := laid_sentinel hL gE gEType Tryz.underlying93 rowE Tryz.underlying152 Tryz.underlying174 rfl rfl Tryz.underlying9 cellsS cells9
  have hE : ErrAt W a0 := by unfold ErrAt; simpa using World.var?_cell gE hv9 0
  have hW' := hW
  obtain ⟨p, q, hA0, hV, rfl, hfz, hnd⟩ := hW
  have hA : DataW.TrodAll enc Tryz.prog W 0 (fun _ => true) true Tryz.f7.params.toList args.toList ds p := hA0
  rw [Tryz.params7] at hA hval
  obtain ⟨v0, vs0, d0, ds0, p0, q0, hargs, rfl, rfl, h0, r0⟩ := trodAll_cons hA
  obtain ⟨v1, vs1, d1, ds1, p1, q1, rfl, rfl, rfl, h1, r1⟩ := trodAll_cons r0
  obtain ⟨rfl, rfl, rfl⟩ := trodAll_nil r1
  obtain rfl : args = #[v0, v1] := by cases args; simp_all
  obtain ⟨rfl, rfl⟩ := trodVars_none hV
  obtain ⟨r0, rfl, wr0⟩ := open_boot (hval 0 24 v0 rfl rfl) h0
  obtain ⟨l1, hl1⟩ := open_opr (hval 1 61 v1 rfl rfl) h1
  clear hA0 hval0
  refine (walk r0 wr0 l1 W hl1 a0 hE).mono fun e W' ⟨he, bel⟩ => ?_
  subst he
  exact ⟨_, rfl, _, _, _, [], _, [], hW', trodAll_mk1 (shut_bool Tryz.underlying4 _), (trodAll_cons_mk (Below.trod laidOut (by kernel_rfl) (of_decide_eq_true (by kernel_rfl)) h0 bel (by obtain ⟨f, hf⟩ := h0; exact DataW.trod_lt _ _ _ _ hf)) (trodAll_cons_mk (Below.trod laidOut (by kernel_rfl) (of_decide_eq_true (by kernel_rfl)) h1 bel (by obtain ⟨f, hf⟩ := h1; exact DataW.trod_lt _ _ _ _ hf)) trodAll_mk0)), rfl, bel.frame _, fun h => by cases h⟩
set_option maxRecDepth 100000 in
theorem lifted (os : Os) (started : os.Started) (H : Type) (enc : TypeId × Value → H) (F : Stop.Interp) :
    ReturnsInHanded {} Tryz.checked os 7 .any ((OpenSpec.ofChange Rows.bootDoesSpec).preRow enc Tryz.prog Tryz.f7 Rows.bootDoesRow.domain false Rows.bootDoesRow.laid) (((OpenSpec.ofChange Rows.bootDoesSpec).at F).post enc Tryz.prog Tryz.f7 false true false false) := by
  refine returnsInHanded_of_row (C := Tryz.checked) (s := OpenSpec.ofChange Rows.bootDoesSpec) own started (by kernel_rfl) Tryz.func7
    (witness_row_at (enc := enc) (C := Tryz.checked) false (laidWorld os) #[brV BR.zero, .slice none 0 0] rfl (by kernel_rfl) (by kernel_rfl) (by kernel_rfl)
      (OpenSpec.preRow_of_B rfl 8 (by kernel_rfl) (by kernel_rfl) (laid_met os _))) ?_
  intro W base args ds gs before hval hW _ _ _ hL _ _
  exact contract H enc W base args ds gs before hval hW hL
set_option maxRecDepth 100000 in
theorem said : Rows.BootDoesSaid :=
  OpenClaim.holds_of_cond 7 Tryz.f7 rfl rfl rfl rfl rfl rfl rfl ⟨rfl, rfl, rfl, rfl, rfl⟩ rfl rfl rfl rfl rfl (by kernel_rfl) Tryz.func7 (by kernel_rfl)
    (of_decide_eq_true (by kernel_rfl)) (by unfold Func.isWrapper; first | (rw [if_pos (by decide +kernel)]; kernel_rfl) | (rw [if_neg (by decide +kernel)]; exact ⟨rfl, rfl⟩))
    (fun os started H enc _ F => by rw [OpenClaim.pre_eq_preRow]; exact lifted os started H enc F)
theorem plain (f : FuncId) (fn : Func) (hf : Tryz.pinned.checked.prog.funcNamed "farrier/farrierlaw13.BootDoes" = some f) (hfn : Tryz.pinned.checked.prog.funcs[f]? = some fn) :
    true = Tryz.pinned.checked.prog.looks [] ∧ ∀ (j : Nat) t, fn.params[j]? = some t → Tryz.pinned.checked.prog.wantsStandIn t = false := by
  obtain rfl : f = 7 := Option.some.inj ((show Tryz.prog.funcNamed "farrier/farrierlaw13.BootDoes" = some 7 by kernel_rfl).symm.trans hf) |>.symm
  obtain rfl : fn = Tryz.f7 := (Option.some.inj (Tryz.func7.symm.trans hfn)).symm
  refine ⟨by kernel_rfl, fun j t ht => ?_⟩
  rw [Tryz.params7] at ht
  have hall : (Tryz.f7.params.toList.all fun t => !Tryz.prog.wantsStandIn t) = true := by kernel_rfl
  rw [Tryz.params7] at hall
  have := List.all_eq_true.1 hall t (by simpa using Array.mem_of_getElem? ht)
  show Tryz.prog.wantsStandIn t = false
  simpa using this
theorem proved : Rows.BootDoesCardSaid :=
  Claim7.holds_tied_plain_at .later [] _ _ _ _ said (fun _ h => by cases h) (by kernel_rfl) (fun _ h => by cases h) bootDoes_row_tie rfl ⟨rfl, rfl⟩ (by kernel_rfl) rfl plain (by kernel_rfl)
#print axioms proved
end Go.Proofs.YtgcbmjflodgnbaaGreatDoor.bootDoes
