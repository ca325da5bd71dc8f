/- Whatever boot records come in, the call of BootCounts returns true and leaves its argument as it was. Its condition: the package-level variable boot.errNone holds what its initialiser lays; the card of it stands at the end. -/
import Derived.Test.YtgcbmjflodgnbaaGreatDoorM13
import Derived.Test.YtgcbmjflodgnbaaGreatDoorM14
import Derived.Test.YtgcbmjflodgnbaaGreatDoorM08
import Derived.Test.YtgcbmjflodgnbaaGreatDoorM10
import Derived.Test.YtgcbmjflodgnbaaGreatDoorM12
import Derived.Test.YtgcbmjflodgnbaaGreatDoorM01
import Derived.Deep.DeepCutAuto
import Derived.Deep.CutBlock
import Derived.IntWalk
import Derived.Deep.RegionHeld3
import Derived.Test.YtgcbmjflodgnbaaGreatDoorCards
import Derived.Test.YtgcbmjflodgnbaaGreatDoorTie
import Derived.ProofKit
import Derived.OpenShut
import Derived.ShutString
import Derived.ChangeOld
import Derived.Deep.DeepHandedRow
import Derived.Stop.LaidErr
namespace Go.Proofs.YtgcbmjflodgnbaaGreatDoor.bootCounts
set_option maxRecDepth 100000
open Go Go.RowKit Go.ChangeShapes Go.WideShapes Go.ChangeAt
open Go.ChangeMaps (open_string shut_string)
set_option linter.unusedVariables false

/-- What stands between the rounds. -/
structure RelC (w wr : World) (g q p bb cb : Nat) (s : FS) (t : BS) (j : Nat) : Prop where
  bt : BtS wr 1 g q p bb cb s t
  cnt : BCnt 1 s t
  num : t.seq ≤ j + 1
  be : Below w.heap.size w wr
theorem RelC.same {w wr wx : World} {g q p bb cb : Nat} {s : FS} {t : BS} {j : Nat} (h : RelC w wr g q p bb cb s t j) (hu : Upd [] wr wx) (hl : w.heap.size ≤ wr.heap.size) : RelC w wx g q p bb cb s t j :=
  ⟨h.bt.keep hu, h.cnt, h.num, Upd.below h.be hu (fun i hi => by cases hi) hl⟩
theorem fmt_cnt : ∃ s', (bfs 3).bformat 1 BR.zero = (s', ⟨BR.zero, 1, 0, false⟩, 0) ∧ BCnt 1 s' ⟨BR.zero, 1, 0, false⟩ := by
  have hi : In (bfs 3).n.length ((1 : Nat) : Int) 2 := by rw [bfs_n]; exact ⟨by omega, by omega, by omega, by omega⟩
  exact bformat_cnt (bfs_still 3) (bfs_ok (by omega)) hi ⟨.inl rfl, by decide, by decide, by decide⟩ ((bfs_er 3).sub (by omega) (by omega)) (by rfl) (by rfl)
theorem count_of {s : FS} {k : Nat} {c : Int} (h : s.n[k]? = some c) : s.count (k : Nat) = c := by
  unfold FS.count
  rw [if_pos (by omega), Int.toNat_natCast, List.getD_eq_getElem?_getD, h]; rfl
theorem nums {n a b : Nat} (hn : n ≤ 101) (h1 : a ≤ b + 1) (h2 : b ≤ a + 1) (h3 : a + b ≤ n / 8 + 1) : IntKind.i64.wrap ((a : Int) - (b : Int)) = (a : Int) - (b : Int) ∧ IntKind.i64.wrap ((b : Int) - (a : Int)) = (b : Int) - (a : Int) ∧ IntKind.i64.wrap ((a : Int) + (b : Int)) = (a : Int) + (b : Int) ∧
    (a : Int) - (b : Int) ≤ 1 ∧ (b : Int) - (a : Int) ≤ 1 ∧ ∃ d : Nat, (n : Int) / 8 = (d : Int) ∧ IntKind.i64.wrap (d : Int) = (d : Int) ∧ IntKind.i64.wrap ((d : Int) + 1) = (d : Int) + 1 ∧ (a : Int) + (b : Int) ≤ (d : Int) + 1 := by
  refine ⟨by rw [IntKind.wrap_i64]; omega, by rw [IntKind.wrap_i64]; omega, by rw [IntKind.wrap_i64]; omega, by omega, by omega, n / 8, by omega, by rw [IntKind.wrap_i64]; omega, by rw [IntKind.wrap_i64]; omega, by omega⟩
theorem num1 {n : Nat} (hn : n ≤ 101) : IntKind.i64.wrap ((n : Int) + 1) = (n : Int) + 1 := by rw [IntKind.wrap_i64]; omega
set_option maxHeartbeats 16000000 in
theorem walk {v : Value} (l : List BR) (W : World) (hl : BootsS W v l) (a0 : Addr) (hE : ErrAt W a0) : Calls Tryz.prog 4 #[v] W fun e w' => e = .returned (.bool true) ∧ Below W.heap.size W w' := by
  obtain ⟨ao, cap, rfl, hlen, hcells⟩ := hl
  unfold maxLen at hlen
  have HCELLS := Box.mk hcells; clear hcells
  have FX := Box.mk (fun w hE => bfixed_any a0 w hE)
  have HE := Box.mk hE; have GE := Box.mk hE.lt
  clear hE
  obtain ⟨s1, e1, cnt1⟩ := fmt_cnt
  have LD := Box.mk (laidb_any BR.zero W)
  rw [e1] at LD
  unfold LaidB brV brC BR.zero at LD
  have CN := Box.mk cnt1
  clear e1 cnt1
  generalize hw : W = w at *
  clear hw
  dsimp only at LD
  go_enter Tryz.func4, Tryz.ntmps4
  go_wp2_with fail
  refine LD.out.mono ?_
  rintro e w1 ⟨q, p, bb, cb, q', p', bb', cb', kv, lv, rfl, hb, hln, hf, hrf, hok, hc⟩
  rcases hc with ⟨h, _⟩ | ⟨_, g, g', rfl, rfl, hbt, hrbt, hg, hg', _, _⟩
  · exact absurd rfl h
  have LO : Box (∀ k, k ∈ [g, p, bb, cb] → w.heap.size ≤ k) := ⟨fun k hk => by
    rcases List.mem_cons.1 hk with rfl | hk
    · exact hg
    · exact hln.lo k (List.mem_cons_of_mem _ hk)⟩
  have R0 := Box.mk (show RelC w w1 g q p bb cb s1 ⟨BR.zero, 1, 0, false⟩ 0 from ⟨hbt, CN.out, by show 1 ≤ 0 + 1; omega, hb⟩)
  clear hb hln hf hrf hok hbt hrbt hg hg' LD CN
  go_wp2_with fail
  go_loopw [8, 9] (fun nv i wr => ∃ (j : Nat) (s : FS) (t : BS), j ≤ l.length ∧ j ≤ 100 ∧ nv = .int .i64 (t.seq : Int) ∧ i = .int .i64 j ∧ RelC w wr g q p bb cb s t j) (fun _ i _ => l.length - (intOf i).toNat)
  case atStart => exact ⟨0, s1, _, Nat.zero_le _, by omega, rfl, rfl, R0.out⟩
  case round =>
    clear R0
    obtain ⟨j, s, t, hj, hj100, rfl, rfl, hr⟩ := hrel
    have NI : True := trivial
    by_cases hlt : j < l.length
    · by_cases h100 : j < 100
      · have hltI : (j : Int) < (l.length : Int) := by omega
        have h100I : (j : Int) < 100 := by omega
        obtain ⟨r, ho⟩ : ∃ s, l[j]? = some s := ⟨_, List.getElem?_eq_getElem hlt⟩
        obtain ⟨a, rfl, HO⟩ := HCELLS.out j r ho
        have HA := Box.mk HO; have HLT := Box.mk (And.intro hlt h100)
        have RR := Box.mk hr
        have CELL : Box (∀ wx, Below w.heap.size w wx → BAt wx (a.add (j * 5)) r) := ⟨fun wx hb => HO.below hb HO.lt⟩
        obtain ⟨q0, q1, q2, q3, q4⟩ := (CELL.out _ hr.be).flat
        have MA := Box.mk (fun w => rmay_any r w)
        have PT := Box.mk (fun w h => bput_any g q p bb cb 1 s t r w h hr.cnt.inv.by_.b2 (by have := hr.num; omega))
        clear HO ho hlt h100
        by_cases hm : r.May
        · rw [(BR.may_iff _).2 hm] at MA
          obtain ⟨p1, p2, p3, p4⟩ := hr.cnt.put hm (by have := hr.num; omega)
          generalize s.bput 1 t r = R at PT p1 p2 p3 p4
          obtain ⟨s2, ⟨r2, q2', b2, d2⟩, e2⟩ := R
          dsimp only at PT p1 p2 p3 p4
          subst p1 p2 p3
          have P4 := Box.mk p4
          have W1 := num1 (n := t.seq) (by have := hr.num; omega)
          have EQ := eq_boot
          unfold brV brC at *
          clear p4 hr hm
          try dsimp only at MA PT
          go_wp2_with fail
          refine (PT.out _ RR.out.bt).mono ?_
          rintro e w3 ⟨rfl, hbt, hu⟩
          have B3 := Box.mk (Upd.below RR.out.be hu LO.out RR.out.be.size)
          have BT3 := Box.mk hbt
          clear hu hbt q0 q1 q2 q3 q4
          obtain ⟨q0, q1, q2, q3, q4⟩ := (CELL.out _ B3.out).flat
          go_wp2_with fail
          refine (MA.out _).mono ?_
          rintro e w4 ⟨rfl, hb⟩
          have B4 := Box.mk (B3.out.trans (hb.mono B3.out.size))
          have BT4 := Box.mk (BT3.out.keep (Upd.of_below hb))
          clear hb q0 q1 q2 q3 q4 B3 BT3
          obtain ⟨q0, q1, q2, q3, q4⟩ := (CELL.out _ B4.out).flat
          go_upto_region 13 with (fail)
          have SQ : Box (∀ wx, Upd [] w4 wx → Calls Tryz.prog 13 #[.pointer (some ⟨g, 0, none⟩)] wx fun e w' => e = .returned (.int .i64 ((t.seq : Int) + 1)) ∧ wx = w') := ⟨fun wx hu => bseq_any g q ⟨r2, t.seq + 1, b2, d2⟩ wx (BT4.out.keep hu).bt⟩
          have GT : Box (∀ wx, Upd [] w4 wx → Calls Tryz.prog 14 #[.pointer (some ⟨g, 0, none⟩)] wx fun e w' => e = .returned (.agg #[.int .i64 r2.slot, .bool r2.up, .int .i64 r2.count, .int .i64 r2.s0, .int .i64 r2.s1]) ∧ Below wx.heap.size wx w') := ⟨fun wx hu => bget_any g q ⟨r2, t.seq + 1, b2, d2⟩ wx (BT4.out.keep hu).bt⟩
          go_region_held3 (fun w' => w'.cell? (a.add (j * 5)) = some (.int .i64 r2.slot) ∧ w'.cell? ⟨(a.add (j * 5)).block, (a.add (j * 5)).off + 1, none⟩ = some (.bool r2.up) ∧ w'.cell? ⟨(a.add (j * 5)).block, (a.add (j * 5)).off + 2, none⟩ = some (.int .i64 r2.count) ∧ w'.cell? ⟨(a.add (j * 5)).block, (a.add (j * 5)).off + 3, none⟩ = some (.int .i64 r2.s0) ∧ w'.cell? ⟨(a.add (j * 5)).block, (a.add (j * 5)).off + 4, none⟩ = some (.int .i64 r2.s1))
            (simp [*])
            ((first
              | (go_at_call 13; refine (SQ.out _ (Upd.refl _ _).drew).mono ?_; rintro e w5 ⟨rfl, rfl⟩)
              | (go_at_call 14; refine (GT.out _ (Upd.refl _ _).drew).mono ?_; rintro e w5 ⟨rfl, hb⟩; have U5 := Box.mk ((Upd.refl [] w4).drew.trans (Upd.of_below hb)); have B5 := Box.mk (Upd.below B4.out U5.out (fun i hi => by cases hi) B4.out.size); clear hb q0 q1 q2 q3 q4; obtain ⟨q0, q1, q2, q3, q4⟩ := (CELL.out _ B5.out).flat)))
          all_goals
            go_wp2_with fail
            exact ⟨⟨j + 1, s2, ⟨r2, t.seq + 1, b2, d2⟩, HLT.out.1, HLT.out.2, rfl, by go_num, ⟨BT4.out.keep U5.out, P4.out, by have := RR.out.num; show t.seq + 1 ≤ _; omega, B5.out⟩⟩, by have := HLT.out.1; simp [intOf]; omega⟩
        · rw [(BR.may_no _).2 hm] at MA
          have ep : s.bput 1 t r = (s, t, 130) := by unfold FS.bput; rw [if_pos ((BR.may_no r).2 hm)]
          rw [ep] at PT
          unfold brV brC at *
          clear hr hm ep
          try dsimp only at MA PT
          go_wp2_with fail
          refine (PT.out _ RR.out.bt).mono ?_
          rintro e w3 ⟨rfl, hbt, hu⟩
          have B3 := Box.mk (Upd.below RR.out.be hu LO.out RR.out.be.size)
          have BT3 := Box.mk hbt
          clear hu hbt q0 q1 q2 q3 q4
          obtain ⟨q0, q1, q2, q3, q4⟩ := (CELL.out _ B3.out).flat
          go_wp2_with fail
          refine (MA.out _).mono ?_
          rintro e w4 ⟨rfl, hb⟩
          have R4 := Box.mk (show RelC w w4 g q p bb cb s t (j + 1) from ⟨BT3.out.keep (Upd.of_below hb), RR.out.cnt, by have := RR.out.num; omega, B3.out.trans (hb.mono B3.out.size)⟩)
          clear hb q0 q1 q2 q3 q4 B3 BT3
          have SQ : Box (∀ n, Calls Tryz.prog 13 #[.pointer (some ⟨g, 0, none⟩)] (w4.drewN n) fun e w' => e = .returned (.int .i64 (t.seq : Int)) ∧ w4.drewN n = w') := ⟨fun n => bseq_any g q t _ (R4.out.bt.keep ((Upd.refl [] _).drewN _)).bt⟩
          go_upto_region 13 with (fail)
          go_quiet ((go_at_call 13; exact quiet_calls (SQ.out _)))
          all_goals
            go_wp2_with fail
            exact ⟨⟨j + 1, s, t, HLT.out.1, HLT.out.2, rfl, by go_num, R4.out.same ((Upd.refl [] _).drewN _) R4.out.be.size⟩, by have := HLT.out.1; simp [intOf]; omega⟩
      · have h100I : ¬ (j : Int) < 100 := by omega
        have hltI : (j : Int) < (l.length : Int) := by omega
        have HC := hr.cnt.counts
        obtain ⟨ca, cb', e1, e2, e3, e4, e5⟩ := HC
        have NN := Box.mk (nums (by have := hr.num; omega) e3 e4 e5)
        have C1 := Box.mk (fun w (h : BtS w 1 g q p bb cb s t) => count_any p bb cb s ((1 : Nat) : Int) w h.f h.ok)
        have C2 := Box.mk (fun w (h : BtS w 1 g q p bb cb s t) => count_any p bb cb s ((2 : Nat) : Int) w h.f h.ok)
        rw [count_of e1] at C1
        rw [count_of (k := 2) e2] at C2
        have KB := Box.mk hr.bt; have KE := Box.mk hr.be
        clear hr e1 e2 e3 e4 e5 NI HCELLS
        go_wp2_with fail
        refine (C1.out _ KB.out).mono ?_
        rintro e w2 ⟨rfl, rfl⟩
        go_wp2_with fail
        refine (C2.out _ KB.out).mono ?_
        rintro e w2 ⟨rfl, rfl⟩
        go_wp2_with fail
        refine (FX.out _ (HE.out.below KE.out GE.out)).mono ?_
        rintro e w3 ⟨rfl, hb⟩
        have B3 := Box.mk (KE.out.trans (hb.mono KE.out.size))
        clear hb
        obtain ⟨n1, n2, n3, n4, n5, d, n6, n7, n8, n9⟩ := NN.out
        go_wp2_with fail
        go_ret
        exact ⟨rfl, B3.out⟩
    · have hltI : ¬ (j : Int) < (l.length : Int) := by omega
      have HC := hr.cnt.counts
      obtain ⟨ca, cb', e1, e2, e3, e4, e5⟩ := HC
      have NN := Box.mk (nums (by have := hr.num; omega) e3 e4 e5)
      have C1 := Box.mk (fun w (h : BtS w 1 g q p bb cb s t) => count_any p bb cb s ((1 : Nat) : Int) w h.f h.ok)
      have C2 := Box.mk (fun w (h : BtS w 1 g q p bb cb s t) => count_any p bb cb s ((2 : Nat) : Int) w h.f h.ok)
      rw [count_of e1] at C1
      rw [count_of (k := 2) e2] at C2
      have KB := Box.mk hr.bt; have KE := Box.mk hr.be
      clear hr e1 e2 e3 e4 e5 NI HCELLS
      go_wp2_with fail
      refine (C1.out _ KB.out).mono ?_
      rintro e w2 ⟨rfl, rfl⟩
      go_wp2_with fail
      refine (C2.out _ KB.out).mono ?_
      rintro e w2 ⟨rfl, rfl⟩
      go_wp2_with fail
      refine (FX.out _ (HE.out.below KE.out GE.out)).mono ?_
      rintro e w3 ⟨rfl, hb⟩
      have B3 := Box.mk (KE.out.trans (hb.mono KE.out.size))
      clear hb
      obtain ⟨n1, n2, n3, n4, n5, d, n6, n7, n8, n9⟩ := NN.out
      go_wp2_with fail
      go_ret
      exact ⟨rfl, B3.out⟩
theorem own : ownKnob Tryz.prog.godebug = none := by kernel_rfl
theorem laidOut : laidOutB Tryz.prog = true := by kernel_rfl
theorem gE : Tryz.prog.globalNamed "farrier/boot.errNone" = some 0 := by kernel_rfl
theorem gEType : (Tryz.prog.globals[0]?).map (·.type) = some 93 := by kernel_rfl
theorem cellsS : Tryz.prog.cellsOf 174 = 1 := by kernel_rfl
theorem cells9 : Tryz.prog.cellsOf 9 = 1 := by kernel_rfl
theorem star : "*" ++ "errors.errorString" = "*errors.errorString" := by decide
theorem rowE (u : TypeId) (h : Tryz.prog.typeName? 3 u = some "*errors.errorString") : u = 152 :=
  typeName_ptr_named (nm := "errors.errorString") (by rw [star]; kernel_rfl) (by kernel_rfl) (by decide) u (by rw [star]; exact h)
noncomputable def low : Nat := (World.holding Tryz.prog default ⟨#[], #[], []⟩).heap.size
noncomputable def laidWorld (os : Os) : World :=
  let w0 := World.holding Tryz.prog os ⟨#[.cells #[.string ⟨#[110, 111, 32, 114, 101, 99, 111, 114, 100]⟩] 174], #[], []⟩
  { w0 with heap := w0.heap.modify 0 fun
      | .cells _ t frozen => .cells #[.iface 152 (.pointer (some ⟨low, 0, none⟩))] t frozen
      | o => o }
theorem laid_met (os : Os) (args : Array Value) : laidMet Tryz.prog Rows.bootCountsRow.laid ((laidWorld os).forCall (fun _ _ => 0) ⟨#[], args, []⟩).memory :=
  laidMet_of_run (ps := [.cell 0 0, .cell low 0]) 8 (by kernel_rfl) (by kernel_rfl) (by kernel_rfl)
theorem contract (H : Type) (enc : TypeId × Value → H) (W : World) (base : Nat) (args : Array Value) (ds gs : List (DataW H)) (before : List MemPlace)
    (hval0 : ∀ (j : Nat) t v, Tryz.f4.params[j]? = some t → args[j]? = some v → Value.okWide Tryz.prog W .any base t v)
    (hW : DataW.Whole enc Tryz.prog Tryz.f4.params.toList Rows.bootCountsSpec.vars false W args.toList ds gs before) (hL : laidMetH Tryz.prog Rows.bootCountsRow.laid W) :
    Calls Tryz.prog 4 args W fun e W' => ∃ v, e = .returned v ∧ Rows.bootCountsSpec.post enc Tryz.prog Tryz.f4 false true false false W args v W' := by
  have hval : ∀ (j : Nat) t v, Tryz.f4.params[j]? = some t → args[j]? = some v → Value.okWide Tryz.prog W .any base t v := hval0
  obtain ⟨a0, s9, hv9, hc9, hs9, hz9⟩ := laid_sentinel hL gE gEType Tryz.underlying93 rowE Tryz.underlying152 Tryz.underlying174 rfl rfl Tryz.underlying9 cellsS cells9
  have hE : ErrAt W a0 := by unfold ErrAt; simpa using World.var?_cell gE hv9 0
  have hW' := hW
  obtain ⟨p, q, hA0, hV, rfl, hfz, hnd⟩ := hW
  have hA : DataW.TrodAll enc Tryz.prog W 0 (fun _ => true) true Tryz.f4.params.toList args.toList ds p := hA0
  rw [Tryz.params4] at hA hval
  obtain ⟨v0, vs0, d0, ds0, p0, q0, hargs, rfl, rfl, h0, r0⟩ := trodAll_cons hA
  obtain ⟨rfl, rfl, rfl⟩ := trodAll_nil r0
  obtain rfl : args = #[v0] := by cases args; simp_all
  obtain ⟨rfl, rfl⟩ := trodVars_none hV
  obtain ⟨l0, hl0⟩ := open_boots (hval 0 29 v0 rfl rfl) h0
  clear hA0 hval0
  refine (walk l0 W hl0 a0 hE).mono fun e W' ⟨he, bel⟩ => ?_
  subst he
  exact ⟨_, rfl, _, _, _, [], _, [], hW', trodAll_mk1 (shut_bool Tryz.underlying4 _), (trodAll_cons_mk (Below.trod laidOut (by kernel_rfl) (of_decide_eq_true (by kernel_rfl)) h0 bel (by obtain ⟨f, hf⟩ := h0; exact DataW.trod_lt _ _ _ _ hf)) trodAll_mk0), rfl, bel.frame _, fun h => by cases h⟩
set_option maxRecDepth 100000 in
theorem lifted (os : Os) (started : os.Started) (H : Type) (enc : TypeId × Value → H) (F : Stop.Interp) :
    ReturnsInHanded {} Tryz.checked os 4 .any ((OpenSpec.ofChange Rows.bootCountsSpec).preRow enc Tryz.prog Tryz.f4 Rows.bootCountsRow.domain false Rows.bootCountsRow.laid) (((OpenSpec.ofChange Rows.bootCountsSpec).at F).post enc Tryz.prog Tryz.f4 false true false false) := by
  refine returnsInHanded_of_row (C := Tryz.checked) (s := OpenSpec.ofChange Rows.bootCountsSpec) own started (by kernel_rfl) Tryz.func4
    (witness_row_at (enc := enc) (C := Tryz.checked) false (laidWorld os) #[.slice none 0 0] rfl (by kernel_rfl) (by kernel_rfl) (by kernel_rfl)
      (OpenSpec.preRow_of_B rfl 8 (by kernel_rfl) (by kernel_rfl) (laid_met os _))) ?_
  intro W base args ds gs before hval hW _ _ _ hL _ _
  exact contract H enc W base args ds gs before hval hW hL
set_option maxRecDepth 100000 in
theorem said : Rows.BootCountsSaid :=
  OpenClaim.holds_of_cond 4 Tryz.f4 rfl rfl rfl rfl rfl rfl rfl ⟨rfl, rfl, rfl, rfl, rfl⟩ rfl rfl rfl rfl rfl (by kernel_rfl) Tryz.func4 (by kernel_rfl)
    (of_decide_eq_true (by kernel_rfl)) (by unfold Func.isWrapper; first | (rw [if_pos (by decide +kernel)]; kernel_rfl) | (rw [if_neg (by decide +kernel)]; exact ⟨rfl, rfl⟩))
    (fun os started H enc _ F => by rw [OpenClaim.pre_eq_preRow]; exact lifted os started H enc F)
theorem plain (f : FuncId) (fn : Func) (hf : Tryz.pinned.checked.prog.funcNamed "farrier/farrierlaw13.BootCounts" = some f) (hfn : Tryz.pinned.checked.prog.funcs[f]? = some fn) :
    true = Tryz.pinned.checked.prog.looks [] ∧ ∀ (j : Nat) t, fn.params[j]? = some t → Tryz.pinned.checked.prog.wantsStandIn t = false := by
  obtain rfl : f = 4 := Option.some.inj ((show Tryz.prog.funcNamed "farrier/farrierlaw13.BootCounts" = some 4 by kernel_rfl).symm.trans hf) |>.symm
  obtain rfl : fn = Tryz.f4 := (Option.some.inj (Tryz.func4.symm.trans hfn)).symm
  refine ⟨by kernel_rfl, fun j t ht => ?_⟩
  rw [Tryz.params4] at ht
  have hall : (Tryz.f4.params.toList.all fun t => !Tryz.prog.wantsStandIn t) = true := by kernel_rfl
  rw [Tryz.params4] at hall
  have := List.all_eq_true.1 hall t (by simpa using Array.mem_of_getElem? ht)
  show Tryz.prog.wantsStandIn t = false
  simpa using this
theorem proved : Rows.BootCountsCardSaid :=
  Claim7.holds_tied_plain_at .later [] _ _ _ _ said (fun _ h => by cases h) (by kernel_rfl) (fun _ h => by cases h) bootCounts_row_tie rfl ⟨rfl, rfl⟩ (by kernel_rfl) rfl plain (by kernel_rfl)
#print axioms proved
end Go.Proofs.YtgcbmjflodgnbaaGreatDoor.bootCounts
