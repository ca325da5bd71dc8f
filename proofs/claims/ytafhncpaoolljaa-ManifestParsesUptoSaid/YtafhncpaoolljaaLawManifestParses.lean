/- Whatever text comes in, the call of ManifestParses returns true and leaves its argument as it was. Of arguments of at most 1048576 values and letters together. -/
import Derived.Test.YtafhncpaoolljaaManV
import Derived.Test.YtafhncpaoolljaaManL
import Derived.Deep.MidRow
import Derived.ProofKit
import Derived.OpenShut
import Derived.ShutString
import Derived.ChangeOld
import Derived.HandedShaped
import Derived.Shelf.Vars
import Derived.Deep.DeepHandedRow
import Derived.Lib.LaidTab
import Derived.JoinedCond
namespace Go.Proofs.Ytafhncpaoolljaa.manifestParses
set_option maxRecDepth 100000
open Go Go.RowKit Go.ChangeShapes Go.WideShapes Go.ChangeAt
open Go.ChangeMaps (open_string shut_string)
set_option linter.unusedVariables false

theorem may_sizes {l : List SM} (h : ∀ x ∈ l, x.May) : ∀ x ∈ l, x.name.size ≤ maxLen ∧ x.sum.size ≤ maxLen := fun x hx => by
  have := (h x hx).sum; have := (h x hx).few; unfold maxLen; omega
theorem parse_few (S : List UInt8) : (parseM 220 221 S).1.length ≤ 16 := by
  obtain ⟨O, hO⟩ : ∃ O, O = parseM 220 221 S := ⟨_, rfl⟩
  rw [← hO]
  obtain ⟨k, f⟩ := O
  by_cases hf : f = 0
  · rw [hf] at hO
    exact (printM_ok (by decide) (by decide) (parse_print (by decide) (by decide) hO.symm)).2.2.2.1
  · rw [parse_len hO.symm hf]; exact Nat.zero_le _
theorem own_there {w : World} {base n : Nat} {ao : Option Addr} {cap : Nat} {xs : List Value} (h : w.ownsRow base 33 2 (.slice ao n cap) n xs) (hn : 0 < n) : ∃ g, ao = some ⟨g, 0, none⟩ ∧ base ≤ g ∧ w.there g 0 (n * 2) := by
  rcases h.2 with ⟨_, h0⟩ | ⟨g, cap', cur, hv, hb, hg, hnc, hcm, hcs, htk⟩
  · omega
  · injection hv with h1 h2 h3
    subst h1
    refine ⟨g, rfl, hb, fun j hj => ⟨?_, ?_⟩⟩
    · rw [cell_of_row _ _ _ _ _ _ hg, Array.getElem?_eq_getElem (by rw [hcs]; have := Nat.mul_le_mul_right 2 hnc; omega)]; rfl
    · unfold World.frozen?; rw [hg]; simp
theorem store_midV {ops : Array Oper} {rest : List Oper} {op : Oper} {a : Act} {w : World} {Q : Exit → Act → World → Prop} (hgd : op.guard = none) (ty : TypeId) (x y : Operand) (ho : op.op = .store ty x y)
    (b o : Nat) (cells : Array Value) (W1 : World) (hW : W1 = w.setCells b o cells.toList) (hx : a.eval x = .pointer (some ⟨b, o, none⟩)) (hy : a.eval y = .agg cells)
    (ht : w.there b o cells.size) (hi : (Try.prog.info? ty).map (·.size) = some cells.size) (h1 : cells.all (·.oneCell') = true)
    (h : wpList Try.prog ops Q rest (a.put op.dst undef) W1) : wpList Try.prog ops Q (op :: rest) a w :=
  wpList_store_mid hgd ty x y ho b o cells hx hy ht hi h1 (hW ▸ h)
theorem below_setCells {B : Nat} {a : World} {b : Nat} (hb : B ≤ b) : ∀ (vs : List Value) (o : Nat) (w : World), Below B a w → Below B a (w.setCells b o vs)
  | [], _, _, h => h
  | v :: vs, o, w, h => by rw [World.setCells]; exact below_setCells hb vs (o + 1) _ (h.setCell (p := ⟨b, o, none⟩) hb v)
set_option maxHeartbeats 4000000 in
theorem walk (w : World) (m : Int) (hm : w.cell? ⟨0, 0, none⟩ = some (.int .i64 m)) (s : ByteArray) (ws : s.size ≤ maxLen) (bs : s.size ≤ 1500000) : Calls Try.prog 4 #[.string s] w fun e w' => e = .returned (.bool true) ∧ Below w.heap.size w w' := by
  have KM := Box.mk (show ∀ wx, Below w.heap.size w wx → wx.cell? ⟨0, 0, none⟩ = some (.int .i64 m) from fun wx h => (h.cell (p := ⟨0, 0, none⟩) (World.block_lt_of_cell? w _ hm)).trans hm)
  have RP := Box.mk (rparse_any s bs w)
  have PS := Box.mk (fun w h => parse_any s m bs w h)
  have FEW := Box.mk (parse_few s.data.toList)
  clear hm bs ws
  unfold ParV at RP PS
  obtain ⟨O, hO⟩ : ∃ O : List SM × Int, O = parseM 220 221 s.data.toList := ⟨_, rfl⟩
  rw [← hO] at RP PS FEW
  clear hO
  obtain ⟨k, f⟩ := O
  dsimp only at RP PS FEW
  have hff : (f != f) = false := by simp
  go_enter Try.func4, Try.ntmps4
  go_wp2_with fail
  refine RP.out.mono ?_
  rintro e w1 ⟨hb, vk, rfl, how, hmay⟩
  obtain ⟨ao, cap, rfl⟩ := own_slice how
  have B1 := Box.mk hb; have MY := Box.mk hmay
  have SK := Box.mk (sums_of_own how (by have := FEW.out; unfold maxLen; omega) (may_sizes hmay))
  clear hb how hmay RP
  go_wp2_with fail
  go_loopw [5] (fun t wr => ∃ j : Nat, j ≤ 2 ∧ t = .int .i64 (j : Int) ∧ Below w1.heap.size w1 wr) (fun t _ => 2 - (intOf t).toNat)
  case atStart => exact ⟨0, by omega, rfl, Below.refl _ _⟩
  case round =>
    obtain ⟨t, ht, rfl, hb⟩ := hrel
    have HB := Box.mk hb
    clear hb
    by_cases hlt : t < 2
    · as_aux_lemma =>
      have htI : (t : Int) < 2 := by omega
      obtain ⟨wo, rfl⟩ : ∃ wo : World, wo = wr := ⟨_, rfl⟩
      go_wp2_with fail
      refine (PS.out _ (KM.out _ (B1.out.trans (HB.out.mono B1.out.size)))).mono ?_
      rintro e w2 ⟨hb, va, rfl, how, _⟩
      obtain ⟨bo, cbp, rfl⟩ := own_slice how
      have OW := Box.mk how
      have SM1 := Box.mk (same_any k k (.slice bo k.length cbp) (.slice ao k.length cap) _ (sums_of_own how (by have := FEW.out; unfold maxLen; omega) (may_sizes MY.out)) ((SK.out.below HB.out).below hb))
      rw [decide_eq_true rfl] at SM1
      have HWO := Box.mk HB.out.size
      have HB2 := Box.mk (HB.out.trans (hb.mono HB.out.size))
      clear hb how HB
      go_wp2_with fail
      refine SM1.out.mono ?_
      rintro e w3 ⟨rfl, hb⟩
      have B3 := Box.mk (HB2.out.trans (hb.mono HB2.out.size))
      have O3 := Box.mk (ownS_below OW.out hb)
      clear hb OW HB2 SM1
      go_wp2_with fail
      go_loopw [8] (fun i wx => ∃ j : Nat, j ≤ k.length ∧ i = .int .i64 (j : Int) ∧ Below w1.heap.size w1 wx ∧ (0 < k.length → ∃ g, bo = some ⟨g, 0, none⟩ ∧ wo.heap.size ≤ g ∧ wx.there g 0 (k.length * 2))) (fun i _ => k.length - (intOf i).toNat)
      case atStart => exact ⟨0, Nat.zero_le _, rfl, B3.out, fun h => own_there O3.out h⟩
      case round =>
        obtain ⟨j, hj, rfl, hb, hth⟩ := hrel
        have HB := Box.mk hb
        clear hb B3 O3
        have hk16 := FEW.out
        by_cases hjl : j < k.length
        · as_aux_lemma =>
          have hjI : (j : Int) < (k.length : Int) := by omega
          obtain ⟨g, rfl, hg, th⟩ := hth (by omega)
          have TH := Box.mk th; have HG := Box.mk hg
          clear hth th hg
          go_upto_region 11 with (fail)
          obtain ⟨V1, hV1⟩ : ∃ W, W = wr.setCells g (j * 2) #[.string ⟨#[]⟩, .string ⟨#[]⟩].toList := ⟨_, rfl⟩
          have BV := Box.mk (show Below w1.heap.size w1 V1 by rw [hV1]; exact below_setCells (Nat.le_trans HWO.out HG.out) _ _ _ HB.out)
          have TV := Box.mk (show V1.there g 0 (k.length * 2) by rw [hV1]; exact World.there_setCells TH.out _ _ _)
          have HV := Box.mk hV1
          have TJ := Box.mk (show wr.there g (j * 2) (#[.string ⟨#[]⟩, .string ⟨#[]⟩] : Array Value).size from fun q hq => by have hq : q < 2 := hq; have := TH.out (j * 2 + q) (by omega); rw [Nat.zero_add] at this; exact this)
          clear hV1
          go_wp2_with ((with_reducible refine store_midV rfl 33 (.tmp 41) (.tmp 40) rfl g (j * 2) #[.string ⟨#[]⟩, .string ⟨#[]⟩] V1 HV.out ?_ ?_ TJ.out ?_ ?_ ?_); rfl; rfl; kernel_rfl; kernel_rfl)
          exact ⟨⟨j + 1, hjl, by go_num, BV.out, fun _ => ⟨g, rfl, HG.out, TV.out⟩⟩, by simp [intOf]; omega⟩
        · as_aux_lemma =>
          have hjI : ¬ (j : Int) < (k.length : Int) := by omega
          clear hth
          go_wp2_with fail
          exact ⟨⟨t + 1, hlt, by go_num, HB.out⟩, by simp [intOf]; omega⟩
    · as_aux_lemma =>
      have htI : ¬ (t : Int) < 2 := by omega
      have BW := Box.mk (B1.out.trans (HB.out.mono B1.out.size))
      go_wp2_with fail
      refine (fixed_any m _ (KM.out _ BW.out)).mono ?_
      rintro e w4 ⟨rfl, hb⟩
      have B7 := Box.mk (BW.out.trans (hb.mono BW.out.size))
      clear hb
      go_wp2_with fail
      go_ret
      exact ⟨rfl, B7.out⟩
theorem own : ownKnob Try.prog.godebug = none := by kernel_rfl
theorem laidOut : laidOutB Try.prog = true := by kernel_rfl
theorem part_le {H : Type} {d : DataW H} {l : List (DataW H)} (h : d ∈ l) : Rows.uptoBulk d ≤ Rows.uptoBulkAll l := by
  induction l with
  | nil => cases h
  | cons x r ih =>
    simp only [Rows.uptoBulkAll]
    cases List.mem_cons.1 h with
    | inl e => subst e; omega
    | inr e => have := ih e; omega
theorem string_le {H : Type} {l : List (DataW H)} (hk : Rows.uptoSmall H l = true) (s : ByteArray) (h : (DataW.lit (H := H) (.string s.data.toList)) ∈ l) : s.size ≤ 1500000 := by
  have h1 := of_decide_eq_true hk
  have h2 := part_le h
  have h3 : Rows.uptoBulk (DataW.lit (H := H) (.string s.data.toList)) = s.data.toList.length + 1 := by simp [Rows.uptoBulk]
  have h4 : s.data.toList.length = s.size := Array.length_toList
  omega
theorem contract (H : Type) (enc : TypeId × Value → H) (W : World) (base : Nat) (args : Array Value) (ds gs : List (DataW H)) (before : List MemPlace)
    (hval0 : ∀ (j : Nat) t v, Try.f4.params[j]? = some t → args[j]? = some v → Value.okWide Try.prog W .any base t v)
    (hW : DataW.Whole enc Try.prog Try.f4.params.toList Rows.manifestParsesSpec.vars false W args.toList ds gs before) (hsh : W.ShapedOpen Try.prog) (hk : Rows.uptoSmall H (ds ++ gs) = true) :
    Calls Try.prog 4 args W fun e W' => ∃ v, e = .returned v ∧ Rows.manifestParsesSpec.post enc Try.prog Try.f4 false true false false W args v W' := by
  have hval : ∀ (j : Nat) t v, Try.f4.params[j]? = some t → args[j]? = some v → Value.okWide Try.prog W .any base t v := hval0
  obtain ⟨m0, hm0⟩ := cell_of_shapedOpen_int (g := 0) (zero := #[.int .i64 0]) (t := 3) hsh (of_decide_eq_true (by kernel_rfl)) (by kernel_rfl) rfl (by kernel_rfl) (by kernel_rfl) Try.underlying3
  have hW' := hW
  obtain ⟨p, q, hA0, hV, rfl, hfz, hnd⟩ := hW
  have hA : DataW.TrodAll enc Try.prog W 0 (fun _ => true) true Try.f4.params.toList args.toList ds p := hA0
  rw [Try.params4] at hA hval
  obtain ⟨v0, vs0, d0, ds0, p0, q0, hargs, rfl, rfl, h0, r0⟩ := trodAll_cons hA
  obtain ⟨rfl, rfl, rfl⟩ := trodAll_nil r0
  obtain rfl : args = #[v0] := by cases args; simp_all
  obtain ⟨rfl, rfl⟩ := trodVars_none hV
  obtain ⟨s0, rfl, rfl, rfl, ws0⟩ := open_string Try.underlying9 (hval 0 9 v0 rfl rfl) h0
  have bs0 : s0.size ≤ 1500000 := string_le hk s0 (by simp)
  clear hA0 hval0 hk
  refine (walk W m0 hm0 s0 ws0 bs0).mono fun e W' ⟨he, bel⟩ => ?_
  subst he
  exact ⟨_, rfl, _, _, _, [], _, [], hW', trodAll_mk1 (shut_bool Try.underlying4 _), (trodAll_cons_mk (shut_string Try.underlying9 ws0) trodAll_mk0), rfl, bel.frame _, fun h => by cases h⟩
noncomputable def laidWorld (os : Os) : World := World.holding Try.prog os ⟨#[], #[], []⟩
theorem laid_met (os : Os) : laidMet Try.prog Rows.manifestParsesUptoRow.laid ((laidWorld os).forCall (fun _ _ => 0) ⟨#[], #[.string ⟨#[]⟩], []⟩).memory :=
  laidMet_of_run' 8 (by kernel_rfl) (by kernel_rfl)
theorem reads (os : Os) {H : Type} (enc : TypeId × Value → H) : ∃ places, DataW.whole enc Try.prog ((laidWorld os).forCall (fun _ _ => 0) ⟨#[], #[.string ⟨#[]⟩], []⟩).memory Try.f4.params.toList Rows.manifestParsesSpec.vars false (#[.string ⟨#[]⟩] : Array Value).toList 8 = some ([.lit (.string [])], [], places) :=
  ⟨[], by kernel_rfl⟩
set_option maxRecDepth 100000 in
theorem lifted (os : Os) (started : os.Started) (H : Type) (enc : TypeId × Value → H) (F : Stop.Interp) :
    ReturnsInHanded {} Try.checked os 4 .any ((Rows.OpenSpec.upto Rows.manifestParsesSpec).preRow enc Try.prog Try.f4 Rows.manifestParsesUptoRow.domain false Rows.manifestParsesUptoRow.laid) (((Rows.OpenSpec.upto Rows.manifestParsesSpec).at F).post enc Try.prog Try.f4 false true false false) := by
  obtain ⟨places, hx⟩ := reads os enc
  refine returnsInHanded_of_row (C := Try.checked) (s := Rows.OpenSpec.upto Rows.manifestParsesSpec) own started (by kernel_rfl) Try.func4
    (witness_row_at (enc := enc) (C := Try.checked) false (laidWorld os) #[.string ⟨#[]⟩] rfl (by kernel_rfl) (by kernel_rfl) (by kernel_rfl)
      (OpenSpec.preRow_of_cond 8 hx (by kernel_rfl) (fun k hk => by cases hk; kernel_rfl) (by kernel_rfl) (laid_met os))) ?_
  intro W base args ds gs before hval hW _ hcond _ _ hsh _
  exact contract H enc W base args ds gs before hval hW hsh (hcond _ rfl)
theorem proved : Rows.ManifestParsesUptoSaid :=
  OpenClaim.holds_of_cond 4 Try.f4 rfl rfl rfl rfl rfl rfl rfl ⟨rfl, rfl, rfl, rfl, rfl⟩ rfl rfl rfl rfl rfl (by kernel_rfl) Try.func4 (by kernel_rfl)
    (of_decide_eq_true (by kernel_rfl)) (by unfold Func.isWrapper; first | (rw [if_pos (by decide +kernel)]; kernel_rfl) | (rw [if_neg (by decide +kernel)]; exact ⟨rfl, rfl⟩))
    (fun os started H enc _ F => by rw [OpenClaim.pre_eq_preRow]; exact lifted os started H enc F)
#print axioms proved
end Go.Proofs.Ytafhncpaoolljaa.manifestParses
