/- Whatever first record and script come in, the call of BootKeeps returns true and leaves its arguments as they were. Its condition: the package-level variable boot.errNone holds what its initialiser lays; the card of it stands at the end. -/
import Derived.Test.YtgcbmjflodgnbaaGreatDoorM13
import Derived.Test.YtgcbmjflodgnbaaGreatDoorM14
import Derived.Test.YtgcbmjflodgnbaaGreatDoorM08
import Derived.Test.YtgcbmjflodgnbaaGreatDoorM10
import Derived.Test.YtgcbmjflodgnbaaGreatDoorM12
import Derived.Test.YtgcbmjflodgnbaaGreatDoorM01
import Derived.Deep.DeepCutAuto
import Derived.Deep.CutBlock
import Derived.IntWalk
import Derived.Deep.RegionHeld3
import Derived.Test.YtgcbmjflodgnbaaGreatDoorCards
import Derived.Test.YtgcbmjflodgnbaaGreatDoorTie
import Derived.ProofKit
import Derived.OpenShut
import Derived.ShutString
import Derived.ChangeOld
import Derived.Deep.DeepHandedRow
import Derived.Stop.LaidErr
namespace Go.Proofs.YtgcbmjflodgnbaaGreatDoor.bootKeeps
set_option maxRecDepth 100000
open Go Go.RowKit Go.ChangeShapes Go.WideShapes Go.ChangeAt
open Go.ChangeMaps (open_string shut_string)
set_option linter.unusedVariables false

def rowB (r : BR) : Obj := .cells (brC r) 24 (0, 0)
/-- What stands between the rounds. -/
structure RelK (w wr : World) (g q p bb cb lb : Nat) (s : FS) (t : BS) (last : BR) (j : Nat) : Prop where
  bt : BtS wr 1 g q p bb cb s t
  inv : BInv 1 s t
  rec_ : t.r = last
  num : t.seq ≤ j + 1
  be : Below w.heap.size w wr
  lo : ∀ k, k ∈ [g, q, p, bb, cb] → w.heap.size ≤ k
  row : wr.heap[lb]? = some (rowB last)
  nl : lb ∉ [g, q, p, bb, cb] ∧ w.heap.size ≤ lb
  n3 : s.n.length = 3
/-- What the script's call leaves. -/
structure AftK (w wx : World) (g q p bb cb lb nb : Nat) (j : Nat) : Prop where
  ex : ∃ (s : FS) (t : BS) (last nx r : BR) (n b : Nat), BtS wx 1 g q p bb cb s t ∧ BBy 1 s r n b ∧ n ≤ j + 2 ∧ (r = last ∨ r = nx) ∧ (s.dead = false → BInv 1 s t ∧ t.r = last ∧ t.seq ≤ j + 2) ∧
    Below w.heap.size w wx ∧ (∀ k, k ∈ [g, q, p, bb, cb] → w.heap.size ≤ k) ∧ wx.heap[lb]? = some (rowB last) ∧ wx.heap[nb]? = some (rowB nx) ∧ lb ∉ [g, q, p, bb, cb] ∧ nb ∉ [g, q, p, bb, cb] ∧ w.heap.size ≤ lb ∧ w.heap.size ≤ nb ∧ s.n.length = 3
theorem stN {w : World} {b : Nat} {r0 : BR} (h : w.heap[b]? = some (rowB r0)) (r : BR) : ∃ W5, W5 = ((((w.setCell ⟨b, 0, none⟩ (.int .i64 r.slot)).setCell ⟨b, 1, none⟩ (.bool r.up)).setCell ⟨b, 2, none⟩ (.int .i64 r.count)).setCell ⟨b, 3, none⟩ (.int .i64 r.s0)).setCell ⟨b, 4, none⟩ (.int .i64 r.s1) ∧ W5.heap[b]? = some (rowB r) ∧ Upd [b] w W5 := by
  have hst := run_storeCells_from (P := Tryz.prog) b 24 (brC r).toList 0 (brC r0) w h (by simp [brC]) (fun v hv => (Array.all_eq_true_iff_forall_mem.1 (brC_one r)) v (by simpa using hv))
  have hcl := boot_cells (r := r0) (show w.heap[b]? = some (.cells (brC r0) 24 (0, 0)) from h)
  have h2 := run_storeCells_cells (P := Tryz.prog) b 0 (brC r).toList 0 w (fun i hi => by
    obtain ⟨⟨k0, k1, k2, k3, k4⟩, _⟩ := hcl
    simp only [brC, List.length_cons, List.length_nil] at hi
    match i, hi with
    | 0, _ => simpa using congrArg Option.isSome k0
    | 1, _ => simpa using congrArg Option.isSome k1
    | 2, _ => simpa using congrArg Option.isSome k2
    | 3, _ => simpa using congrArg Option.isSome k3
    | 4, _ => simpa using congrArg Option.isSome k4) (fun i hi => hcl.2 _) (fun v hv => (Array.all_eq_true_iff_forall_mem.1 (brC_one r)) v (by simpa using hv))
  have e := h2.symm.trans hst
  injection e with _ e
  have hlt := (Array.getElem?_eq_some_iff.1 h).1
  refine ⟨_, rfl, ?_, ?_⟩
  · change (w.setCells b (0 + 0) (brC r).toList).heap[b]? = _
    rw [e]
    unfold World.setRow
    rw [Array.getElem?_modify, if_pos rfl, h]; rfl
  · change Upd [b] w (w.setCells b (0 + 0) (brC r).toList)
    rw [e]
    refine ⟨rfl, rfl, rfl, ?_, fun i hi hn => ?_⟩
    · unfold World.setRow; rw [Array.size_modify]; exact Nat.le_refl _
    · unfold World.setRow
      rw [Array.getElem?_modify, if_neg (fun e => hn (by simp [e]))]
theorem opC_cells {w : World} {k : Nat} {o : OpB} (h : w.heap[k]? = some (.cells (opC o) 63 (0, 0))) : w.cell? ⟨k, 0, none⟩ = some (.int .i64 o.k) ∧ w.cell? ⟨k, 1, none⟩ = some (.int .i64 o.n) ∧ w.cell? ⟨k, 2, none⟩ = some (.int .i64 o.a) ∧ w.cell? ⟨k, 3, none⟩ = some (.int .u8 (o.m.toNat : Int)) ∧
    w.cell? ⟨k, 4, none⟩ = some (.int .i64 o.r.slot) ∧ w.cell? ⟨k, 5, none⟩ = some (.bool o.r.up) ∧ w.cell? ⟨k, 6, none⟩ = some (.int .i64 o.r.count) ∧ w.cell? ⟨k, 7, none⟩ = some (.int .i64 o.r.s0) ∧ w.cell? ⟨k, 8, none⟩ = some (.int .i64 o.r.s1) := by
  unfold opC at h
  refine ⟨?_, ?_, ?_, ?_, ?_, ?_, ?_, ?_, ?_⟩ <;> (rw [cell_of_row _ _ _ _ _ _ h]; rfl)
theorem arm_n (s : FS) (n k : Int) (m : UInt8) : (s.arm n k m).1.n = s.n := by
  unfold FS.arm
  (repeat' split) <;> rfl
set_option maxHeartbeats 16000000 in
theorem walk (first : BR) (wf : first.Wf) {v : Value} (l : List OpB) (w : World) (hl : ScriptB w v l) (a0 : Addr) (hE : ErrAt w a0) : Calls Tryz.prog 6 #[brV first, v] w fun e w' => e = .returned (.bool true) ∧ Below w.heap.size w w' := by
  obtain ⟨ao, cap, rfl, hlen, hcells⟩ := hl
  unfold maxLen at hlen
  have HCELLS := Box.mk hcells; clear hcells
  have FX := Box.mk (fun w hE => bfixed_any a0 w hE)
  have HE := Box.mk hE; have GE := Box.mk hE.lt
  clear hE
  have LD := Box.mk (fun w => laidb_any first w)
  have FM := Box.mk (laid_fmt first)
  generalize (bfs 3).bformat 1 first = RF at LD FM
  obtain ⟨s1, t1, e1⟩ := RF
  unfold LaidB brV brC at *
  dsimp only at LD
  obtain ⟨z0, hz0⟩ : ∃ z, z = w.heap.size := ⟨_, rfl⟩
  obtain ⟨W0, hW0⟩ : ∃ W, W = w.alloc (.cells #[.int .i64 first.slot, .bool first.up, .int .i64 first.count, .int .i64 first.s0, .int .i64 first.s1] 24) := ⟨_, rfl⟩
  have R0 := Box.mk (show W0.heap[z0]? = some (.cells #[.int .i64 first.slot, .bool first.up, .int .i64 first.count, .int .i64 first.s0, .int .i64 first.s1] 24 (0, 0)) by rw [hW0, hz0]; exact heap_alloc_new _ _)
  have B0 := Box.mk (show Below w.heap.size w W0 by rw [hW0]; exact (Below.refl _ _).alloc (Nat.le_refl _) _)
  go_enter Tryz.func6, Tryz.ntmps6
  go_upto_region 1 with (fail)
  rw [← hW0, ← hz0]
  clear hz0 hW0
  obtain ⟨⟨k0, k1, k2, k3, k4⟩, _⟩ := boot_cells (r := first) R0.out
  go_wp2_with fail
  clear k0 k1 k2 k3 k4
  refine (LD.out W0).mono ?_
  rintro e w1 ⟨q, p, bb, cb, q', p', bb', cb', kv, lv, rfl, hb, hln, hf, hrf, hok, hc⟩
  have B1 := Box.mk (B0.out.trans (hb.mono B0.out.size))
  have R1 := Box.mk ((hb.block z0 (Array.getElem?_eq_some_iff.1 R0.out).1).trans R0.out)
  obtain ⟨⟨k0, k1, k2, k3, k4⟩, _⟩ := boot_cells (r := first) R1.out
  have LN := Box.mk hln; have HC := Box.mk hc
  obtain ⟨lb, hlb⟩ : ∃ z, z = w1.heap.size := ⟨_, rfl⟩
  obtain ⟨W2, hW2⟩ : ∃ W, W = w1.alloc (.cells #[.int .i64 first.slot, .bool first.up, .int .i64 first.count, .int .i64 first.s0, .int .i64 first.s1] 24) := ⟨_, rfl⟩
  have B2 := Box.mk (show Below w.heap.size w W2 by rw [hW2]; exact B1.out.alloc B1.out.size _)
  have R2 := Box.mk (show W2.heap[lb]? = some (.cells #[.int .i64 first.slot, .bool first.up, .int .i64 first.count, .int .i64 first.s0, .int .i64 first.s1] 24 (0, 0)) by rw [hW2, hlb]; exact heap_alloc_new _ _)
  have U2 := Box.mk (show Upd [] w1 W2 by rw [hW2]; exact (Upd.refl [] w1).alloc _)
  clear hb hln hf hrf hok hc
  go_upto_region 5 with (fail)
  rw [← hW2, ← hlb]
  clear k0 k1 k2 k3 k4 hW2
  have hc := HC.out
  rcases hc with ⟨_, rfl, rfl⟩ | ⟨he1, g, g', rfl, rfl, hbt, hrbt, hg, hg', _, _⟩
  · clear HC FM
    go_wp2_with fail
    go_loopw [6, 11] (fun lv _ wr => lv = .pointer none ∧ Below w.heap.size w wr) (fun _ _ _ => 0)
    case atStart => exact ⟨rfl, B2.out⟩
    case round =>
      obtain ⟨rfl, hb⟩ := hrel
      have BE := Box.mk hb
      clear hb
      go_wp2_with fail
      refine (FX.out _ (HE.out.below BE.out GE.out)).mono ?_
      rintro e w3 ⟨rfl, hb⟩
      have B3 := Box.mk (BE.out.trans (hb.mono BE.out.size))
      clear hb
      go_wp2_with fail
      go_ret
      exact ⟨rfl, B3.out⟩
  · have hmay : first.May := by
      by_cases h : first.May
      · exact h
      · have := FM.out.2 h
        simp only [Prod.mk.injEq] at this
        rw [he1] at this; exact absurd this.2.2 (by decide)
    obtain ⟨s1', ee, st1, inv1, hn3⟩ := FM.out.1 hmay
    simp only [Prod.mk.injEq] at ee
    obtain ⟨rfl, rfl, _⟩ := ee
    have LT1 : g < w1.heap.size ∧ q < w1.heap.size ∧ p < w1.heap.size ∧ bb < w1.heap.size ∧ cb < w1.heap.size := ⟨hbt.bt.lt, hbt.pa.lt, hbt.f.lt.1, hbt.f.lt.2.1, hbt.f.lt.2.2⟩
    have RK := Box.mk (show RelK w W2 g q p bb cb lb s1 ⟨first, 1, 0, false⟩ first 0 from ⟨hbt.keep U2.out, inv1, rfl, by show 1 ≤ 0 + 1; omega, B2.out, fun k hk => by
      have := B0.out.size
      rcases List.mem_cons.1 hk with rfl | hk
      · omega
      · have := LN.out.lo k hk; omega, R2.out, by
      have := B1.out.size
      simp only [List.mem_cons, List.not_mem_nil, or_false, not_or]; omega, hn3⟩)
    clear hn3 HC FM hbt hrbt hg hg' st1 inv1 LT1 R2 U2 hlb hmay he1 LN
    go_wp2_with fail
    go_loopw [6, 11] (fun sv i wr => ∃ (j : Nat) (s : FS) (t : BS) (last : BR) (g q : Nat), j ≤ l.length ∧ j ≤ 200 ∧ sv = .pointer (some ⟨g, 0, none⟩) ∧ i = .int .i64 j ∧ RelK w wr g q p bb cb lb s t last j) (fun _ i _ => l.length - (intOf i).toNat)
    case atStart => exact ⟨0, _, _, _, g, q, Nat.zero_le _, by omega, rfl, rfl, RK.out⟩
    case round =>
      clear RK
      obtain ⟨j, s, t, last, g, q, hj, hj200, rfl, rfl, hr⟩ := hrel
      by_cases hlt : j < l.length
      · by_cases h200 : j < 200
        · have hltI : (j : Int) < (l.length : Int) := by omega
          have h200I : (j : Int) < 200 := by omega
          obtain ⟨o, ho⟩ : ∃ s, l[j]? = some s := ⟨_, List.getElem?_eq_getElem hlt⟩
          obtain ⟨a, rfl, HO⟩ := HCELLS.out j o ho
          have RR := Box.mk hr
          have HLT := Box.mk (And.intro hlt h200)
          obtain ⟨q0, q1, q2, q3, q4, q5, q6, q7, q8⟩ := (HO.below hr.be HO.lt).flat
          have OK := Box.mk HO.ok
          obtain ⟨wk, hwk⟩ : ∃ wk, wk = wr.alloc (.cells (opC o) 63) := ⟨_, rfl⟩
          have OB : Box (wk.heap[wr.heap.size]? = some (.cells (opC o) 63 (0, 0))) := ⟨by rw [hwk]; exact heap_alloc_new _ _⟩
          have UK := Box.mk (show Upd [] wr wk by rw [hwk]; exact (Upd.refl [] wr).alloc _)
          have RL := Box.mk ((UK.out.block lb (Array.getElem?_eq_some_iff.1 hr.row).1 (by simp)).trans hr.row)
          obtain ⟨ob, hob⟩ : ∃ z, z = wr.heap.size := ⟨_, rfl⟩
          clear HO hr ho hlt h200
          unfold opC at hwk
          go_upto_region 9 with (fail)
          rw [← hwk, ← hob]
          rw [← hob] at OB
          clear hwk q0 q1 q2 q3 q4 q5 q6 q7 q8
          obtain ⟨⟨k0, k1, k2, k3, k4⟩, _⟩ := boot_cells (r := last) (show wk.heap[lb]? = some (.cells (brC last) 24 (0, 0)) from RL.out)
          obtain ⟨nb, hnb⟩ : ∃ z, z = wk.heap.size := ⟨_, rfl⟩
          obtain ⟨wn, hwn⟩ : ∃ W, W = wk.alloc (.cells #[.int .i64 last.slot, .bool last.up, .int .i64 last.count, .int .i64 last.s0, .int .i64 last.s1] 24) := ⟨_, rfl⟩
          have UN := Box.mk (show Upd [] wk wn by rw [hwn]; exact (Upd.refl [] wk).alloc _)
          have RN := Box.mk (show wn.heap[nb]? = some (rowB last) by rw [hwn, hnb]; exact heap_alloc_new _ _)
          have OBN := Box.mk ((UN.out.block ob (Array.getElem?_eq_some_iff.1 OB.out).1 (by simp)).trans OB.out)
          have RLN := Box.mk ((UN.out.block lb (Array.getElem?_eq_some_iff.1 RL.out).1 (by simp)).trans RL.out)
          have BTN := Box.mk ((RR.out.bt.keep UK.out).keep UN.out)
          have BEN := Box.mk (Upd.below (Upd.below RR.out.be UK.out (fun i hi => by cases hi) RR.out.be.size) UN.out (fun i hi => by cases hi) (Nat.le_trans RR.out.be.size UK.out.size))
          have NBN : Box (nb ∉ [g, q, p, bb, cb] ∧ ob ∉ [g, q, p, bb, cb] ∧ nb ≠ ob ∧ nb ≠ lb ∧ ob ≠ lb ∧ w.heap.size ≤ nb) := ⟨by
            have h1 := (RR.out.bt).bt.lt; have h2 := RR.out.bt.pa.lt; have h3 := RR.out.bt.f.lt
            have h4 := (Array.getElem?_eq_some_iff.1 RR.out.row).1
            have h5 := UK.out.size; have h6 := RR.out.be.size
            have h7 := (Array.getElem?_eq_some_iff.1 OB.out).1
            simp only [List.mem_cons, List.not_mem_nil, or_false, not_or]; omega⟩
          clear OB RL UK
          go_upto_region 10 with (fail)
          rw [← hwn, ← hnb]
          clear hwn hnb hob k0 k1 k2 k3 k4 UN
          have INV := Box.mk RR.out.inv; have REC := Box.mk RR.out.rec_; have NUM := Box.mk RR.out.num; have LO := Box.mk RR.out.lo; have NL := Box.mk RR.out.nl; have N3 := Box.mk RR.out.n3
          clear RR
          obtain ⟨z0, z1, z2, z3, z4, z5, z6, z7, z8⟩ := opC_cells OBN.out
          go_upto_block 2 with (fail)
          go_cut [13] (fun nv wx => nv = .pointer (some ⟨nb, 0, none⟩) ∧ AftK w wx g q p bb cb lb nb j)
          case first =>
            by_cases c0 : o.k = 0
            · have hk0 : (o.k == 0) = true := by rw [beq_iff_eq]; exact c0
              have PT := Box.mk (bput_any g q p bb cb 1 s t o.r wn BTN.out INV.out.by_.b2 (by have := NUM.out; have := HLT.out.2; omega))
              have PO := Box.mk (fun hm => (bput_out INV.out (r := o.r) hm (by have := NUM.out; have := HLT.out.2; omega)).2)
              generalize hR : s.bput 1 t o.r = R at PT PO
              obtain ⟨s2, t2, e2⟩ := R
              have hR := hR.symm
              have N32 : Box (s2.n.length = 3) := ⟨by have := (FS.bput_ok BTN.out.ok 1 t o.r).2; rw [← hR] at this; exact this.trans N3.out⟩
              unfold brV brC at PT
              dsimp only at PT PO
              clear c0
              go_wp2_with fail
              refine PT.out.mono ?_
              rintro e w5 ⟨rfl, hbt, hu⟩
              have BT5 := Box.mk hbt
              have OB5 := Box.mk ((hu.block ob (Array.getElem?_eq_some_iff.1 OBN.out).1 (by have := NBN.out.2.1; simp at this ⊢; omega)).trans OBN.out)
              have RN5 := Box.mk ((hu.block nb (Array.getElem?_eq_some_iff.1 RN.out).1 (by have := NBN.out.1; simp at this ⊢; omega)).trans RN.out)
              have RL5 := Box.mk ((hu.block lb (Array.getElem?_eq_some_iff.1 RLN.out).1 (by have := NL.out.1; simp at this ⊢; omega)).trans RLN.out)
              have BE5 := Box.mk (Upd.below BEN.out hu (fun k hk => LO.out k (by simp at hk ⊢; omega)) BEN.out.size)
              clear hbt hu z0 z1 z2 z3 z4 z5 z6 z7 z8
              obtain ⟨z0, z1, z2, z3, z4, z5, z6, z7, z8⟩ := opC_cells OB5.out
              by_cases hm : o.r.May
              · rcases PO.out hm with ⟨rfl, rr, sq, iv⟩ | ⟨rfl, dd, r', n', b', by2, nn, ror⟩
                · obtain ⟨⟨n0, n1, n2, n3, n4⟩, nf⟩ := boot_cells (r := last) (show w5.heap[nb]? = some (.cells (brC last) 24 (0, 0)) from RN5.out)
                  obtain ⟨w6, hw6, rn6, u6⟩ := stN RN5.out o.r
                  have RN6 := Box.mk rn6; have U6 := Box.mk u6
                  have RL6 := Box.mk ((u6.block lb (Array.getElem?_eq_some_iff.1 RL5.out).1 (by have := NBN.out.2.2.2.1; simp; omega)).trans RL5.out)
                  clear rn6 u6
                  go_upto_region 15 with (fail)
                  rw [← hw6]
                  clear hw6 n0 n1 n2 n3 n4 nf z0 z1 z2 z3 z4 z5 z6 z7 z8
                  obtain ⟨⟨n0, n1, n2, n3, n4⟩, nf⟩ := boot_cells (r := o.r) (show w6.heap[nb]? = some (.cells (brC o.r) 24 (0, 0)) from RN6.out)
                  obtain ⟨⟨m0, m1, m2, m3, m4⟩, mf⟩ := boot_cells (r := last) (show w6.heap[lb]? = some (.cells (brC last) 24 (0, 0)) from RL6.out)
                  obtain ⟨w7, hw7, rl7, u7⟩ := stN RL6.out o.r
                  have RL7 := Box.mk rl7; have U7 := Box.mk u7
                  clear rl7 u7
                  go_upto_region 17 with (fail)
                  rw [← hw7]
                  clear hw7 n0 n1 n2 n3 n4 nf m0 m1 m2 m3 m4 mf
                  have RN7 := Box.mk ((U7.out.block nb (Array.getElem?_eq_some_iff.1 RN6.out).1 (by have := NBN.out.2.2.2.1; simp; omega)).trans RN6.out)
                  have IV := Box.mk iv
                  clear iv
                  go_wp2_with fail
                  go_meet
                  have h1 := NBN.out.1; have h2 := NL.out
                  have bt7 := (BT5.out.far U6.out (by simp at h1 ⊢; omega) (by simp at h1 ⊢; omega) (by simp at h1 ⊢; omega) (by simp at h1 ⊢; omega) (by simp at h1 ⊢; omega)).far U7.out (by have := h2.1; simp at this ⊢; omega) (by have := h2.1; simp at this ⊢; omega) (by have := h2.1; simp at this ⊢; omega) (by have := h2.1; simp at this ⊢; omega) (by have := h2.1; simp at this ⊢; omega)
                  have be7 := Upd.below (Upd.below BE5.out U6.out (fun k hk => by have := NBN.out.2.2.2.2.2; simp at hk; omega) BE5.out.size) U7.out (fun k hk => by have := h2.2; simp at hk; omega) (Nat.le_trans BE5.out.size U6.out.size)
                  have hq := IV.out
                  exact ⟨rfl, ⟨s2, t2, o.r, o.r, o.r, t2.seq, t2.block, bt7, by rw [← rr]; exact IV.out.by_, by have := NUM.out; omega, .inl rfl, fun _ => ⟨IV.out, rr, by have := NUM.out; omega⟩, be7, LO.out, RL7.out, RN7.out, h2.1, h1, h2.2, NBN.out.2.2.2.2.2, N32.out⟩⟩
                · obtain ⟨⟨n0, n1, n2, n3, n4⟩, nf⟩ := boot_cells (r := last) (show w5.heap[nb]? = some (.cells (brC last) 24 (0, 0)) from RN5.out)
                  obtain ⟨w6, hw6, rn6, u6⟩ := stN RN5.out o.r
                  have RN6 := Box.mk rn6; have U6 := Box.mk u6
                  have RL6 := Box.mk ((u6.block lb (Array.getElem?_eq_some_iff.1 RL5.out).1 (by have := NBN.out.2.2.2.1; simp; omega)).trans RL5.out)
                  have DD := Box.mk dd; have BY2 := Box.mk by2; have NN := Box.mk nn; have ROR := Box.mk ror
                  clear rn6 u6 dd by2 nn ror
                  go_upto_region 15 with (fail)
                  rw [← hw6]
                  clear hw6 n0 n1 n2 n3 n4 nf z0 z1 z2 z3 z4 z5 z6 z7 z8
                  go_wp2_with fail
                  go_meet
                  have h1 := NBN.out.1; have h2 := NL.out
                  have bt6 := BT5.out.far U6.out (by simp at h1 ⊢; omega) (by simp at h1 ⊢; omega) (by simp at h1 ⊢; omega) (by simp at h1 ⊢; omega) (by simp at h1 ⊢; omega)
                  have be6 := Upd.below BE5.out U6.out (fun k hk => by have := NBN.out.2.2.2.2.2; simp at hk; omega) BE5.out.size
                  exact ⟨rfl, ⟨s2, t2, last, o.r, r', n', b', bt6, BY2.out, by have := NUM.out; have := NN.out; omega, by rw [← REC.out]; exact ROR.out, (fun h => absurd (DD.out.symm.trans h) (by decide)), be6, LO.out, RL6.out, RN6.out, h2.1, h1, h2.2, NBN.out.2.2.2.2.2, N32.out⟩⟩
              · have ep : (s2, t2, e2) = (s, t, (130 : Int)) := by rw [hR]; unfold FS.bput; rw [if_pos ((BR.may_no o.r).2 hm)]
                simp only [Prod.mk.injEq] at ep
                obtain ⟨rfl, rfl, rfl⟩ := ep
                have MA := Box.mk (fun w => rmay_any o.r w)
                rw [(BR.may_no _).2 hm] at MA
                unfold brV brC at MA
                clear hR hm PO
                go_wp2_with fail
                refine (MA.out _).mono ?_
                rintro e w6 ⟨rfl, hb⟩
                have U6 := Box.mk (Upd.of_below (S := []) hb)
                clear hb MA z0 z1 z2 z3 z4 z5 z6 z7 z8
                go_wp2_with fail
                go_meet
                have h1 := NBN.out.1; have h2 := NL.out
                exact ⟨rfl, ⟨s2, t2, last, last, last, t2.seq, t2.block, BT5.out.keep U6.out, by rw [← REC.out]; exact INV.out.by_, by have := NUM.out; omega, .inl rfl, fun _ => ⟨INV.out, REC.out, by have := NUM.out; omega⟩, Upd.below BE5.out U6.out (fun k hk => by cases hk) BE5.out.size, LO.out, (U6.out.block lb (Array.getElem?_eq_some_iff.1 RL5.out).1 (by simp)).trans RL5.out, (U6.out.block nb (Array.getElem?_eq_some_iff.1 RN5.out).1 (by simp)).trans RN5.out, h2.1, h1, h2.2, NBN.out.2.2.2.2.2, N32.out⟩⟩
            · have hk0 : (o.k == 0) = false := by rw [beq_eq_false_iff_ne]; exact c0
              have PLAIN : Box (∀ (wx : World) (sx : FS), Fl 84 wx p bb cb sx → sx.Ok → sx.n.length = s.n.length → sx.b = s.b → Upd [p, bb, cb] wn wx → (sx.dead = false → s.dead = false ∧ sx.dead = false) → AftK w wx g q p bb cb lb nb j) := ⟨fun wx sx hf ho hn hb hu hd => by
                have h1 := NBN.out.1; have h2 := NL.out
                have by2 := INV.out.by_.same ho hn hb
                exact ⟨sx, t, last, last, last, t.seq, t.block, BTN.out.flash hf ho hn hu, by rw [← REC.out]; exact by2, by have := NUM.out; omega, .inl rfl, fun h => ⟨⟨by2, h, INV.out.live⟩, REC.out, by have := NUM.out; omega⟩, Upd.below BEN.out hu (fun k hk => LO.out k (by simp at hk ⊢; omega)) BEN.out.size, LO.out, (hu.block lb (Array.getElem?_eq_some_iff.1 RLN.out).1 (by have := h2.1; simp at this ⊢; omega)).trans RLN.out, (hu.block nb (Array.getElem?_eq_some_iff.1 RN.out).1 (by simp at h1 ⊢; omega)).trans RN.out, h2.1, h1, h2.2, NBN.out.2.2.2.2.2, hn.trans N3.out⟩⟩
              clear c0
              by_cases c1 : o.k = 1
              · have hk1 : (o.k == 1) = true := by rw [beq_iff_eq]; exact c1
                have AR := Box.mk (arm_any p bb cb s o.n o.a o.m wn BTN.out.f OK.out.a)
                clear c1
                go_wp2_with fail
                refine AR.out.mono ?_
                rintro e w5 ⟨rfl, hf, hu⟩
                have AF := Box.mk (PLAIN.out w5 _ hf (FS.arm_ok BTN.out.ok _ _ _ OK.out.n.2 OK.out.a.2) (congrArg List.length (arm_n s o.n o.a o.m)) (FS.arm_b _ _ _ _) (hu.mono (by simp)) (fun h => ⟨INV.out.alive, h⟩))
                clear hf hu AR
                go_wp2_with fail
                go_meet
                exact ⟨rfl, AF.out⟩
              · have hk1 : (o.k == 1) = false := by rw [beq_eq_false_iff_ne]; exact c1
                clear c1
                by_cases c2 : o.k = 2
                · have hk2 : (o.k == 2) = true := by rw [beq_iff_eq]; exact c2
                  have CR := Box.mk (crash_any p bb cb s wn BTN.out.f)
                  have hal := INV.out.alive
                  rw [hal] at CR
                  clear c2 hal
                  go_wp2_with fail
                  refine CR.out.mono ?_
                  rintro e w5 ⟨rfl, hf, hu⟩
                  have AF := Box.mk (PLAIN.out w5 s.off hf ⟨by simp [FS.off], BTN.out.ok.keep, BTN.out.ok.len, BTN.out.ok.few⟩ rfl rfl (hu.mono (by simp)) (fun h => ⟨INV.out.alive, h⟩))
                  clear hf hu CR
                  go_wp2_with fail
                  go_meet
                  exact ⟨rfl, AF.out⟩
                · have hk2 : (o.k == 2) = false := by rw [beq_eq_false_iff_ne]; exact c2
                  have AF := Box.mk (PLAIN.out wn s BTN.out.f BTN.out.ok rfl rfl (Upd.refl _ _) (fun h => ⟨h, h⟩))
                  clear c2
                  go_wp2_with fail
                  go_meet
                  exact ⟨rfl, AF.out⟩
          case rest =>
            obtain ⟨rfl, ⟨s2, t2, last2, nx, r', n', b', bt, by2, nn, ror, hal, be, lo, rl, rn, n1, n2, n3, n4, n5⟩⟩ := hcut
            have BT := Box.mk bt; have BY2 := Box.mk by2; have NN := Box.mk nn; have ROR := Box.mk ror; have AL := Box.mk hal; have BE := Box.mk be; have LO2 := Box.mk lo; have RL2 := Box.mk rl; have RN2 := Box.mk rn; have NS := Box.mk (And.intro n1 (And.intro n2 (And.intro n3 (And.intro n4 n5))))
            have DD := Box.mk (dead_any p bb cb s2 wc bt.f)
            clear bt by2 nn ror hal be lo rl rn n1 n2 n3 n4 n5 INV REC NUM LO NL OBN RLN RN BTN BEN z0 z1 z2 z3 z4 z5 z6 z7 z8
            obtain ⟨⟨m0, m1, m2, m3, m4⟩, mf⟩ := boot_cells (r := last2) (show wc.heap[lb]? = some (.cells (brC last2) 24 (0, 0)) from RL2.out)
            cases hd : s2.dead with
            | false =>
              rw [hd] at DD
              go_wp2_with fail
              refine DD.out.mono ?_
              rintro e w1 ⟨rfl, rfl⟩
              obtain ⟨i2, r2, q2⟩ := AL.out hd
              have I2 := Box.mk i2; have Q2 := Box.mk q2; have RC2 := Box.mk r2
              clear i2 q2 r2 hd
              go_upto_region 24 with (fail)
              have EQ := eq_rec
              have GT : Box (∀ wx, Upd [] wc wx → Calls Tryz.prog 14 #[.pointer (some ⟨g, 0, none⟩)] wx fun e w' => e = .returned (.agg #[.int .i64 last2.slot, .bool last2.up, .int .i64 last2.count, .int .i64 last2.s0, .int .i64 last2.s1]) ∧ Below wx.heap.size wx w') := ⟨fun wx hu => by
                have := bget_any g q t2 wx (BT.out.keep hu).bt
                rw [RC2.out] at this
                exact this⟩
              go_region_held3 (fun w' => w'.cell? ⟨lb, 0, none⟩ = some (.int .i64 last2.slot) ∧ w'.cell? ⟨lb, 1, none⟩ = some (.bool last2.up) ∧ w'.cell? ⟨lb, 2, none⟩ = some (.int .i64 last2.count) ∧ w'.cell? ⟨lb, 3, none⟩ = some (.int .i64 last2.s0) ∧ w'.cell? ⟨lb, 4, none⟩ = some (.int .i64 last2.s1))
                (simp [*])
                ((first
                  | (go_at_call 14; refine (GT.out _ (Upd.refl _ _).drew).mono ?_; rintro e w5 ⟨rfl, hb⟩; have U5 := Box.mk ((Upd.refl [] wc).drew.trans (Upd.of_below hb)); have RL5 := Box.mk ((U5.out.block lb (Array.getElem?_eq_some_iff.1 RL2.out).1 (by simp)).trans RL2.out); clear hb m0 m1 m2 m3 m4 mf; obtain ⟨⟨m0, m1, m2, m3, m4⟩, mf⟩ := boot_cells (r := last2) (show w5.heap[lb]? = some (.cells (brC last2) 24 (0, 0)) from RL5.out))))
              all_goals
                go_wp2_with fail
                exact ⟨⟨j + 1, s2, t2, last2, g, q, HLT.out.1, HLT.out.2, rfl, by go_num, ⟨BT.out.keep U5.out, I2.out, RC2.out, by have := Q2.out; omega, Upd.below BE.out U5.out (fun k hk => by cases hk) BE.out.size, LO2.out, RL5.out, ⟨NS.out.1, NS.out.2.2.1⟩, NS.out.2.2.2.2⟩⟩, by have := HLT.out.1; simp [intOf]; omega⟩
            | true =>
              rw [hd] at DD
              go_wp2_with fail
              refine DD.out.mono ?_
              rintro e w1 ⟨rfl, rfl⟩
              have RV := Box.mk (revive_any p bb cb s2 wc BT.out.f)
              have B2' := BY2.out.same (s' := s2.back) ⟨by simp [FS.back], BY2.out.ok.keep, BY2.out.ok.len, BY2.out.ok.few⟩ rfl rfl
              have OPN : Box (s2.back.bopen 1 = .ok ⟨r', n', b', false⟩) := ⟨B2'.open_ rfl (by have := NN.out; have := HLT.out.2; omega)⟩
              have BK := Box.mk B2'
              clear B2' hd DD m0 m1 m2 m3 m4 mf
              go_wp2_with fail
              refine RV.out.mono ?_
              rintro e w1 ⟨rfl, hf, hu⟩
              have F1 := Box.mk hf
              have BE1 := Box.mk (Upd.below BE.out hu (fun k hk => LO2.out k (by simp at hk ⊢; omega)) BE.out.size)
              have RL1 := Box.mk ((hu.block lb (Array.getElem?_eq_some_iff.1 RL2.out).1 (by have := NS.out.1; simp at this ⊢; omega)).trans RL2.out)
              have RN1 := Box.mk ((hu.block nb (Array.getElem?_eq_some_iff.1 RN2.out).1 (by have := NS.out.2.1; simp at this ⊢; omega)).trans RN2.out)
              clear hf hu RV
              go_wp2_with fail
              refine (two_any p bb cb s2.back _ F1.out NS.out.2.2.2.2).mono ?_
              rintro e w2 ⟨q2, rfl, hpa, hq2, hb⟩
              have F2 := Box.mk (F1.out.upd (Upd.of_below (S := []) hb) (by simp) (by simp) (by simp))
              have P2 := Box.mk hpa
              have BE2 := Box.mk (BE1.out.trans (hb.mono BE1.out.size))
              have Q2 := Box.mk (Nat.le_trans BE1.out.size hq2)
              have NQ : Box (q2 ∉ [p, bb, cb]) := ⟨by have := F1.out.lt; simp only [List.mem_cons, List.not_mem_nil, or_false, not_or]; omega⟩
              have LQ : Box (lb < q2 ∧ nb < q2) := ⟨⟨Nat.lt_of_lt_of_le (Array.getElem?_eq_some_iff.1 RL1.out).1 hq2, Nat.lt_of_lt_of_le (Array.getElem?_eq_some_iff.1 RN1.out).1 hq2⟩⟩
              have RL3 := Box.mk ((hb.block lb (Array.getElem?_eq_some_iff.1 RL1.out).1).trans RL1.out)
              have RN3 := Box.mk ((hb.block nb (Array.getElem?_eq_some_iff.1 RN1.out).1).trans RN1.out)
              clear hpa hq2 hb F1 BE1 RL1 RN1
              go_wp2_with fail
              refine (bopen_any a0 q2 p bb cb 1 s2.back _ (HE.out.below BE2.out GE.out) F2.out BK.out.ok P2.out BK.out.inn NQ.out).mono ?_
              rintro e w3 ⟨hb, hm⟩
              rw [OPN.out] at hm
              obtain ⟨g2, rfl, hbt, hg2⟩ := hm
              have BT3 := Box.mk hbt
              have RL4 := Box.mk ((hb.block lb (Array.getElem?_eq_some_iff.1 RL3.out).1).trans RL3.out)
              have RN4 := Box.mk ((hb.block nb (Array.getElem?_eq_some_iff.1 RN3.out).1).trans RN3.out)
              have BE4 := Box.mk (BE2.out.trans (hb.mono BE2.out.size))
              have LO4 : Box (∀ k, k ∈ [g2, q2, p, bb, cb] → w.heap.size ≤ k) := ⟨fun k hk => by
                have h1 := LO2.out; have h2 := Q2.out; have h3 := BE2.out.size
                rcases List.mem_cons.1 hk with rfl | hk
                · omega
                · rcases List.mem_cons.1 hk with rfl | hk
                  · exact h2
                  · exact h1 k (by simp at hk ⊢; omega)⟩
              have NL4 : Box (lb ∉ [g2, q2, p, bb, cb]) := ⟨by
                have h1 := NS.out.1; have h2 := LQ.out; have h3 := P2.out.lt
                simp only [List.mem_cons, List.not_mem_nil, or_false, not_or] at h1 ⊢; omega⟩
              clear hb hbt hg2 RL3 RN3 BE2 F2
              go_upto_region 28 with (fail)
              have GT : Box (∀ wx, Upd [] w3 wx → Calls Tryz.prog 14 #[.pointer (some ⟨g2, 0, none⟩)] wx fun e w' => e = .returned (.agg #[.int .i64 r'.slot, .bool r'.up, .int .i64 r'.count, .int .i64 r'.s0, .int .i64 r'.s1]) ∧ Below wx.heap.size wx w') := ⟨fun wx hu => bget_any g2 q2 ⟨r', n', b', false⟩ wx (BT3.out.keep hu).bt⟩
              have RO := ROR.out
              by_cases he : r' = last2
              · have EQ := fun w => (eq_rec r' last2 w).trans (by rw [decide_eq_true he])
                clear he RO
                refine Gd.wp_region_mixS [] (fun _ => True) Stb.tt trivial (fun _ h => by cases h) 17 [.flo, .flo, .flo, .flo, .flo, .flo, .flo, .flo, .cha, .flo, .flo, .flo, .flo, .cha, .flo, .flo, .flo] (by kernel_rfl) (by kernel_rfl) rfl ?_
                simp only [List.take, List.zip, List.zipWith]
                try go_frame
                refine Gd.yes (by kernel_rfl) (gm_flo (.pointer (some ⟨g2, 0, none⟩)) (fun w1 hw1 => ?_) (gm_nil ?_))
                · go_simp
                try go_frame
                refine Gd.yes (by kernel_rfl) (gm_flo (.bool false) (fun w1 hw1 => ?_) (gm_nil ?_))
                · go_simp
                try go_frame
                refine Gd.yes (by kernel_rfl) (gm_flo (.bool false) (fun w1 hw1 => ?_) (gm_nil ?_))
                · go_simp
                try go_frame
                refine Gd.yes (by kernel_rfl) (gm_flo (.int .i64 0) (fun w1 hw1 => ?_) (gm_nil ?_))
                · go_simp
                try go_frame
                refine Gd.yes (by kernel_rfl) (gm_flo (.bool false) (fun w1 hw1 => ?_) (gm_nil ?_))
                · go_simp
                try go_frame
                refine Gd.yes (by kernel_rfl) (gm_flo (.bool false) (fun w1 hw1 => ?_) (gm_nil ?_))
                · go_simp
                try go_frame
                refine Gd.yes (by kernel_rfl) (gm_flo (.bool false) (fun w1 hw1 => ?_) (gm_nil ?_))
                · go_simp
                try go_frame
                refine Gd.yes (by kernel_rfl) (gm_flo (.pointer (some ⟨g2, 0, none⟩)) (fun w1 hw1 => ?_) (gm_nil ?_))
                · go_simp
                try go_frame
                refine Gd.yes (by kernel_rfl) (gm_call [.pointer (some ⟨g2, 0, none⟩)] (by kernel_rfl) rfl rfl Stb.tt (fun w1 hw1 _ => (GT.out w1 ((Upd.refl [] w3).drew.trans hw1.upd)).mono ?_))
                rintro e w2 ⟨rfl, hw2⟩
                refine ⟨_, rfl, hw2, gm_nil ?_⟩
                try go_frame
                refine Gd.yes (by kernel_rfl) (gm_loadS (.tmp 10) rfl lb (#[.int .i64 last2.slot, .bool last2.up, .int .i64 last2.count, .int .i64 last2.s0, .int .i64 last2.s1]) 24 (0, 0) _ RL4.out (by simp) rfl Tryz.underlying24 rfl (by kernel_rfl) (gm_nil ?_))
                try go_frame
                refine Gd.yes (by kernel_rfl) (gm_flo (.bool false) (fun w1 hw1 => ?_) (gm_nil ?_))
                · go_simp
                try go_frame
                refine Gd.yes (by kernel_rfl) (gm_flo (.bool false) (fun w1 hw1 => ?_) (gm_nil ?_))
                · go_simp
                try go_frame
                refine Gd.no (by kernel_rfl) ?_
                try go_frame
                refine Gd.noC (by kernel_rfl) Stb.tt ?_
                try go_frame
                refine Gd.no (by kernel_rfl) ?_
                try go_frame
                refine Gd.no (by kernel_rfl) ?_
                try go_frame
                refine Gd.yes (by kernel_rfl) (gm_flo (.bool false) (fun w1 hw1 => ?_) (gm_nil ?_))
                · go_simp
                try go_frame
                refine Gd.nil ?_
                intro w5 hw5 _
                simp only [List.drop]
                try go_frame
                have U5 := Box.mk ((Upd.refl [] w3).drew.trans hw5.upd)
                have RL5 := Box.mk ((U5.out.block lb (Array.getElem?_eq_some_iff.1 RL4.out).1 (by simp)).trans RL4.out)
                clear hw5
                go_wp2_with fail
                refine (GT.out _ U5.out).mono ?_
                rintro e w6 ⟨rfl, hb⟩
                have U6 := Box.mk (U5.out.trans (Upd.of_below hb))
                have RL6 := Box.mk ((hb.block lb (Array.getElem?_eq_some_iff.1 RL5.out).1).trans RL5.out)
                clear hb
                obtain ⟨⟨m0, m1, m2, m3, m4⟩, mf⟩ := boot_cells (r := last2) (show w6.heap[lb]? = some (.cells (brC last2) 24 (0, 0)) from RL6.out)
                obtain ⟨w7, hw7, rl7, u7⟩ := stN RL6.out r'
                have RL7 := Box.mk rl7
                have U7 := Box.mk u7
                clear rl7 u7
                go_upto_region 7 with (fail)
                rw [← hw7]
                clear hw7 m0 m1 m2 m3 m4 mf
                go_wp2_with fail
                have h1 := NL4.out
                have bt7 := (BT3.out.keep U6.out).far U7.out (by simp at h1 ⊢; omega) (by simp at h1 ⊢; omega) (by simp at h1 ⊢; omega) (by simp at h1 ⊢; omega) (by simp at h1 ⊢; omega)
                have be6 := Upd.below BE4.out U6.out (fun k hk => by cases hk) BE4.out.size
                have be7 := Upd.below be6 U7.out (fun k hk => by have := NS.out.2.2.1; simp at hk; omega) be6.size
                exact ⟨⟨j + 1, s2.back, ⟨r', n', b', false⟩, r', g2, q2, HLT.out.1, HLT.out.2, rfl, by go_num, ⟨bt7, ⟨BK.out, rfl, rfl⟩, rfl, by have := NN.out; show n' ≤ _; omega, be7, LO4.out, RL7.out, ⟨h1, NS.out.2.2.1⟩, NS.out.2.2.2.2⟩⟩, by have := HLT.out.1; simp [intOf]; omega⟩
              · have EQ := fun w => (eq_rec r' last2 w).trans (by rw [decide_eq_false he])
                have EQ2 := fun w => (eq_rec r' nx w).trans (by rw [decide_eq_true (RO.resolve_left he)])
                clear he RO
                refine Gd.wp_region_mixS [] (fun _ => True) Stb.tt trivial (fun _ h => by cases h) 17 [.flo, .flo, .flo, .flo, .flo, .flo, .flo, .flo, .cha, .flo, .flo, .flo, .flo, .cha, .flo, .flo, .flo] (by kernel_rfl) (by kernel_rfl) rfl ?_
                simp only [List.take, List.zip, List.zipWith]
                try go_frame
                refine Gd.yes (by kernel_rfl) (gm_flo (.pointer (some ⟨g2, 0, none⟩)) (fun w1 hw1 => ?_) (gm_nil ?_))
                · go_simp
                try go_frame
                refine Gd.yes (by kernel_rfl) (gm_flo (.bool false) (fun w1 hw1 => ?_) (gm_nil ?_))
                · go_simp
                try go_frame
                refine Gd.yes (by kernel_rfl) (gm_flo (.bool false) (fun w1 hw1 => ?_) (gm_nil ?_))
                · go_simp
                try go_frame
                refine Gd.yes (by kernel_rfl) (gm_flo (.int .i64 0) (fun w1 hw1 => ?_) (gm_nil ?_))
                · go_simp
                try go_frame
                refine Gd.yes (by kernel_rfl) (gm_flo (.bool false) (fun w1 hw1 => ?_) (gm_nil ?_))
                · go_simp
                try go_frame
                refine Gd.yes (by kernel_rfl) (gm_flo (.bool false) (fun w1 hw1 => ?_) (gm_nil ?_))
                · go_simp
                try go_frame
                refine Gd.yes (by kernel_rfl) (gm_flo (.bool false) (fun w1 hw1 => ?_) (gm_nil ?_))
                · go_simp
                try go_frame
                refine Gd.yes (by kernel_rfl) (gm_flo (.pointer (some ⟨g2, 0, none⟩)) (fun w1 hw1 => ?_) (gm_nil ?_))
                · go_simp
                try go_frame
                refine Gd.yes (by kernel_rfl) (gm_call [.pointer (some ⟨g2, 0, none⟩)] (by kernel_rfl) rfl rfl Stb.tt (fun w1 hw1 _ => (GT.out w1 ((Upd.refl [] w3).drew.trans hw1.upd)).mono ?_))
                rintro e w2 ⟨rfl, hw2⟩
                refine ⟨_, rfl, hw2, gm_nil ?_⟩
                try go_frame
                refine Gd.yes (by kernel_rfl) (gm_loadS (.tmp 10) rfl lb (#[.int .i64 last2.slot, .bool last2.up, .int .i64 last2.count, .int .i64 last2.s0, .int .i64 last2.s1]) 24 (0, 0) _ RL4.out (by simp) rfl Tryz.underlying24 rfl (by kernel_rfl) (gm_nil ?_))
                try go_frame
                refine Gd.yes (by kernel_rfl) (gm_flo (.bool true) (fun w1 hw1 => ?_) (gm_nil ?_))
                · go_simp
                try go_frame
                refine Gd.yes (by kernel_rfl) (gm_flo (.bool true) (fun w1 hw1 => ?_) (gm_nil ?_))
                · go_simp
                try go_frame
                refine Gd.yes (by kernel_rfl) (gm_flo (.pointer (some ⟨g2, 0, none⟩)) (fun w1 hw1 => ?_) (gm_nil ?_))
                · go_simp
                try go_frame
                refine Gd.yes (by kernel_rfl) (gm_call [.pointer (some ⟨g2, 0, none⟩)] (by kernel_rfl) rfl rfl Stb.tt (fun w1 hw1 _ => (GT.out w1 ((Upd.refl [] w3).drew.trans hw1.upd)).mono ?_))
                rintro e w2 ⟨rfl, hw2⟩
                refine ⟨_, rfl, hw2, gm_nil ?_⟩
                try go_frame
                refine Gd.yes (by kernel_rfl) (gm_loadS (.tmp 13) rfl nb (#[.int .i64 nx.slot, .bool nx.up, .int .i64 nx.count, .int .i64 nx.s0, .int .i64 nx.s1]) 24 (0, 0) _ RN4.out (by simp) rfl Tryz.underlying24 rfl (by kernel_rfl) (gm_nil ?_))
                try go_frame
                refine Gd.yes (by kernel_rfl) (gm_flo (.bool false) (fun w1 hw1 => ?_) (gm_nil ?_))
                · go_simp
                try go_frame
                refine Gd.yes (by kernel_rfl) (gm_flo (.bool false) (fun w1 hw1 => ?_) (gm_nil ?_))
                · go_simp
                try go_frame
                refine Gd.nil ?_
                intro w5 hw5 _
                simp only [List.drop]
                try go_frame
                have U5 := Box.mk ((Upd.refl [] w3).drew.trans hw5.upd)
                have RL5 := Box.mk ((U5.out.block lb (Array.getElem?_eq_some_iff.1 RL4.out).1 (by simp)).trans RL4.out)
                clear hw5
                go_wp2_with fail
                refine (GT.out _ U5.out).mono ?_
                rintro e w6 ⟨rfl, hb⟩
                have U6 := Box.mk (U5.out.trans (Upd.of_below hb))
                have RL6 := Box.mk ((hb.block lb (Array.getElem?_eq_some_iff.1 RL5.out).1).trans RL5.out)
                clear hb
                obtain ⟨⟨m0, m1, m2, m3, m4⟩, mf⟩ := boot_cells (r := last2) (show w6.heap[lb]? = some (.cells (brC last2) 24 (0, 0)) from RL6.out)
                obtain ⟨w7, hw7, rl7, u7⟩ := stN RL6.out r'
                have RL7 := Box.mk rl7
                have U7 := Box.mk u7
                clear rl7 u7
                go_upto_region 7 with (fail)
                rw [← hw7]
                clear hw7 m0 m1 m2 m3 m4 mf
                go_wp2_with fail
                have h1 := NL4.out
                have bt7 := (BT3.out.keep U6.out).far U7.out (by simp at h1 ⊢; omega) (by simp at h1 ⊢; omega) (by simp at h1 ⊢; omega) (by simp at h1 ⊢; omega) (by simp at h1 ⊢; omega)
                have be6 := Upd.below BE4.out U6.out (fun k hk => by cases hk) BE4.out.size
                have be7 := Upd.below be6 U7.out (fun k hk => by have := NS.out.2.2.1; simp at hk; omega) be6.size
                exact ⟨⟨j + 1, s2.back, ⟨r', n', b', false⟩, r', g2, q2, HLT.out.1, HLT.out.2, rfl, by go_num, ⟨bt7, ⟨BK.out, rfl, rfl⟩, rfl, by have := NN.out; show n' ≤ _; omega, be7, LO4.out, RL7.out, ⟨h1, NS.out.2.2.1⟩, NS.out.2.2.2.2⟩⟩, by have := HLT.out.1; simp [intOf]; omega⟩
        · have hltI : (j : Int) < (l.length : Int) := by omega
          have h200I : ¬ (j : Int) < 200 := by omega
          have RR := Box.mk hr
          clear hr
          go_wp2_with fail
          refine (FX.out _ (HE.out.below RR.out.be GE.out)).mono ?_
          rintro e w4 ⟨rfl, hb⟩
          have B4 := Box.mk (RR.out.be.trans (hb.mono RR.out.be.size))
          clear hb
          go_wp2_with fail
          go_ret
          exact ⟨rfl, B4.out⟩
      · have hltI : ¬ (j : Int) < (l.length : Int) := by omega
        have RR := Box.mk hr
        clear hr
        go_wp2_with fail
        refine (FX.out _ (HE.out.below RR.out.be GE.out)).mono ?_
        rintro e w4 ⟨rfl, hb⟩
        have B4 := Box.mk (RR.out.be.trans (hb.mono RR.out.be.size))
        clear hb
        go_wp2_with fail
        go_ret
        exact ⟨rfl, B4.out⟩
theorem own : ownKnob Tryz.prog.godebug = none := by kernel_rfl
theorem laidOut : laidOutB Tryz.prog = true := by kernel_rfl
theorem gE : Tryz.prog.globalNamed "farrier/boot.errNone" = some 0 := by kernel_rfl
theorem gEType : (Tryz.prog.globals[0]?).map (·.type) = some 93 := by kernel_rfl
theorem cellsS : Tryz.prog.cellsOf 174 = 1 := by kernel_rfl
theorem cells9 : Tryz.prog.cellsOf 9 = 1 := by kernel_rfl
theorem star : "*" ++ "errors.errorString" = "*errors.errorString" := by decide
theorem rowE (u : TypeId) (h : Tryz.prog.typeName? 3 u = some "*errors.errorString") : u = 152 :=
  typeName_ptr_named (nm := "errors.errorString") (by rw [star]; kernel_rfl) (by kernel_rfl) (by decide) u (by rw [star]; exact h)
noncomputable def low : Nat := (World.holding Tryz.prog default ⟨#[], #[], []⟩).heap.size
noncomputable def laidWorld (os : Os) : World :=
  let w0 := World.holding Tryz.prog os ⟨#[.cells #[.string ⟨#[110, 111, 32, 114, 101, 99, 111, 114, 100]⟩] 174], #[], []⟩
  { w0 with heap := w0.heap.modify 0 fun
      | .cells _ t frozen => .cells #[.iface 152 (.pointer (some ⟨low, 0, none⟩))] t frozen
      | o => o }
theorem laid_met (os : Os) (args : Array Value) : laidMet Tryz.prog Rows.bootKeepsRow.laid ((laidWorld os).forCall (fun _ _ => 0) ⟨#[], args, []⟩).memory :=
  laidMet_of_run (ps := [.cell 0 0, .cell low 0]) 8 (by kernel_rfl) (by kernel_rfl) (by kernel_rfl)
theorem contract (H : Type) (enc : TypeId × Value → H) (W : World) (base : Nat) (args : Array Value) (ds gs : List (DataW H)) (before : List MemPlace)
    (hval0 : ∀ (j : Nat) t v, Tryz.f6.params[j]? = some t → args[j]? = some v → Value.okWide Tryz.prog W .any base t v)
    (hW : DataW.Whole enc Tryz.prog Tryz.f6.params.toList Rows.bootKeepsSpec.vars false W args.toList ds gs before) (hL : laidMetH Tryz.prog Rows.bootKeepsRow.laid W) :
    Calls Tryz.prog 6 args W fun e W' => ∃ v, e = .returned v ∧ Rows.bootKeepsSpec.post enc Tryz.prog Tryz.f6 false true false false W args v W' := by
  have hval : ∀ (j : Nat) t v, Tryz.f6.params[j]? = some t → args[j]? = some v → Value.okWide Tryz.prog W .any base t v := hval0
  obtain ⟨a0, s9, hv9, hc9, hs9, hz9⟩ := laid_sentinel hL gE gEType Tryz.underlying93 rowE Tryz.underlying152 Tryz.underlying174 rfl rfl Tryz.underlying9 cellsS cells9
  have hE : ErrAt W a0 := by unfold ErrAt; simpa using World.var?_cell gE hv9 0
  have hW' := hW
  obtain ⟨p, q, hA0, hV, rfl, hfz, hnd⟩ := hW
  have hA : DataW.TrodAll enc Tryz.prog W 0 (fun _ => true) true Tryz.f6.params.toList args.toList ds p := hA0
  rw [Tryz.params6] at hA hval
  obtain ⟨v0, vs0, d0, ds0, p0, q0, hargs, rfl, rfl, h0, r0⟩ := trodAll_cons hA
  obtain ⟨v1, vs1, d1, ds1, p1, q1, rfl, rfl, rfl, h1, r1⟩ := trodAll_cons r0
  obtain ⟨rfl, rfl, rfl⟩ := trodAll_nil r1
  obtain rfl : args = #[v0, v1] := by cases args; simp_all
  obtain ⟨rfl, rfl⟩ := trodVars_none hV
  obtain ⟨r0, rfl, wr0⟩ := open_boot (hval 0 24 v0 rfl rfl) h0
  obtain ⟨l1, hl1⟩ := open_opr (hval 1 61 v1 rfl rfl) h1
  clear hA0 hval0
  refine (walk r0 wr0 l1 W hl1 a0 hE).mono fun e W' ⟨he, bel⟩ => ?_
  subst he
  exact ⟨_, rfl, _, _, _, [], _, [], hW', trodAll_mk1 (shut_bool Tryz.underlying4 _), (trodAll_cons_mk (Below.trod laidOut (by kernel_rfl) (of_decide_eq_true (by kernel_rfl)) h0 bel (by obtain ⟨f, hf⟩ := h0; exact DataW.trod_lt _ _ _ _ hf)) (trodAll_cons_mk (Below.trod laidOut (by kernel_rfl) (of_decide_eq_true (by kernel_rfl)) h1 bel (by obtain ⟨f, hf⟩ := h1; exact DataW.trod_lt _ _ _ _ hf)) trodAll_mk0)), rfl, bel.frame _, fun h => by cases h⟩
set_option maxRecDepth 100000 in
theorem lifted (os : Os) (started : os.Started) (H : Type) (enc : TypeId × Value → H) (F : Stop.Interp) :
    ReturnsInHanded {} Tryz.checked os 6 .any ((OpenSpec.ofChange Rows.bootKeepsSpec).preRow enc Tryz.prog Tryz.f6 Rows.bootKeepsRow.domain false Rows.bootKeepsRow.laid) (((OpenSpec.ofChange Rows.bootKeepsSpec).at F).post enc Tryz.prog Tryz.f6 false true false false) := by
  refine returnsInHanded_of_row (C := Tryz.checked) (s := OpenSpec.ofChange Rows.bootKeepsSpec) own started (by kernel_rfl) Tryz.func6
    (witness_row_at (enc := enc) (C := Tryz.checked) false (laidWorld os) #[brV BR.zero, .slice none 0 0] rfl (by kernel_rfl) (by kernel_rfl) (by kernel_rfl)
      (OpenSpec.preRow_of_B rfl 8 (by kernel_rfl) (by kernel_rfl) (laid_met os _))) ?_
  intro W base args ds gs before hval hW _ _ _ hL _ _
  exact contract H enc W base args ds gs before hval hW hL
set_option maxRecDepth 100000 in
theorem said : Rows.BootKeepsSaid :=
  OpenClaim.holds_of_cond 6 Tryz.f6 rfl rfl rfl rfl rfl rfl rfl ⟨rfl, rfl, rfl, rfl, rfl⟩ rfl rfl rfl rfl rfl (by kernel_rfl) Tryz.func6 (by kernel_rfl)
    (of_decide_eq_true (by kernel_rfl)) (by unfold Func.isWrapper; first | (rw [if_pos (by decide +kernel)]; kernel_rfl) | (rw [if_neg (by decide +kernel)]; exact ⟨rfl, rfl⟩))
    (fun os started H enc _ F => by rw [OpenClaim.pre_eq_preRow]; exact lifted os started H enc F)
theorem plain (f : FuncId) (fn : Func) (hf : Tryz.pinned.checked.prog.funcNamed "farrier/farrierlaw13.BootKeeps" = some f) (hfn : Tryz.pinned.checked.prog.funcs[f]? = some fn) :
    true = Tryz.pinned.checked.prog.looks [] ∧ ∀ (j : Nat) t, fn.params[j]? = some t → Tryz.pinned.checked.prog.wantsStandIn t = false := by
  obtain rfl : f = 6 := Option.some.inj ((show Tryz.prog.funcNamed "farrier/farrierlaw13.BootKeeps" = some 6 by kernel_rfl).symm.trans hf) |>.symm
  obtain rfl : fn = Tryz.f6 := (Option.some.inj (Tryz.func6.symm.trans hfn)).symm
  refine ⟨by kernel_rfl, fun j t ht => ?_⟩
  rw [Tryz.params6] at ht
  have hall : (Tryz.f6.params.toList.all fun t => !Tryz.prog.wantsStandIn t) = true := by kernel_rfl
  rw [Tryz.params6] at hall
  have := List.all_eq_true.1 hall t (by simpa using Array.mem_of_getElem? ht)
  show Tryz.prog.wantsStandIn t = false
  simpa using this
theorem proved : Rows.BootKeepsCardSaid :=
  Claim7.holds_tied_plain_at .later [] _ _ _ _ said (fun _ h => by cases h) (by kernel_rfl) (fun _ h => by cases h) bootKeeps_row_tie rfl ⟨rfl, rfl⟩ (by kernel_rfl) rfl plain (by kernel_rfl)
#print axioms proved
end Go.Proofs.YtgcbmjflodgnbaaGreatDoor.bootKeeps
