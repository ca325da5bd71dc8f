/- Whatever text and whatever name come in, the call of ManifestFinds returns true and leaves its arguments as they were. Of arguments of at most 1048576 values and letters together. -/
import Derived.Test.YtafhncpaoolljaaManV
import Derived.Test.YtafhncpaoolljaaManL
import Derived.ProofKit
import Derived.OpenShut
import Derived.ShutString
import Derived.ChangeOld
import Derived.HandedShaped
import Derived.Shelf.Vars
import Derived.Deep.DeepHandedRow
import Derived.Lib.LaidTab
import Derived.JoinedCond
namespace Go.Proofs.Ytafhncpaoolljaa.manifestFinds
set_option maxRecDepth 100000
open Go Go.RowKit Go.ChangeShapes Go.WideShapes Go.ChangeAt
open Go.ChangeMaps (open_string shut_string)
set_option linter.unusedVariables false

theorem may_sizes {l : List SM} (h : ∀ x ∈ l, x.May) : ∀ x ∈ l, x.name.size ≤ maxLen ∧ x.sum.size ≤ maxLen := fun x hx => by
  have := (h x hx).sum; have := (h x hx).few; unfold maxLen; omega
def isN (o : ByteArray) (x : SM) : Bool := decide (x.name = o)
theorem find_at : ∀ (k : List SM) (j : Nat) (x : SM), onceM k = true → k[j]? = some x → findM k x.name = some x
  | [], j, x, _, h => by simp at h
  | y :: k, 0, x, ho, h => by
    have h : y = x := by simpa using h
    subst h
    unfold findM
    rw [List.find?_cons_of_pos (by simp)]
  | y :: k, j + 1, x, ho, h => by
    rw [onceM, Bool.and_eq_true, List.all_eq_true] at ho
    have h : k[j]? = some x := by simpa using h
    have hn := ho.1 x (List.mem_of_getElem? h)
    rw [decide_eq_true_iff] at hn
    have ih := find_at k j x ho.2 h
    unfold findM at ih ⊢
    rw [List.find?_cons_of_neg (by simp; exact fun e => hn e.symm), ih]
theorem fnd_at {k : List SM} {j : Nat} {x : SM} (ho : onceM k = true) (h : k[j]? = some x) : fndV k x.name = .tuple #[.string x.sum, .int .i64 0] := by
  unfold fndV; rw [find_at k j x ho h]
theorem fnd_any (k : List SM) (o : ByteArray) : ∃ (U : ByteArray) (D : Int), fndV k o = .tuple #[.string U, .int .i64 D] ∧ (D == 0) = k.any (isN o) := by
  unfold fndV
  cases hf : findM k o with
  | none =>
    refine ⟨_, _, rfl, ?_⟩
    unfold findM at hf
    rw [List.find?_eq_none] at hf
    symm
    rw [show ((222 : Int) == 0) = false from rfl, ← Bool.not_eq_true, List.any_eq_true]
    rintro ⟨x, hx, h⟩
    exact hf x hx h
  | some x =>
    refine ⟨_, _, rfl, ?_⟩
    unfold findM at hf
    symm
    rw [show ((0 : Int) == 0) = true from rfl, List.any_eq_true]
    exact ⟨x, List.mem_of_find?_eq_some hf, by have := List.find?_some hf; exact this⟩
theorem any_snoc {k : List SM} {j : Nat} {x : SM} {o : ByteArray} (h : k[j]? = some x) : (k.take (j + 1)).any (isN o) = ((k.take j).any (isN o) || isN o x) := by
  rw [List.take_add_one, h, List.any_append]; simp
theorem isN_eq (o : ByteArray) (x : SM) : (x.name.toList == o.toList) = isN o x := ba_eq _ _
set_option maxHeartbeats 4000000 in
theorem walk (w : World) (m : Int) (hm : w.cell? ⟨0, 0, none⟩ = some (.int .i64 m)) (s : ByteArray) (ws : s.size ≤ maxLen) (bs : s.size ≤ 1500000) (o : ByteArray) (wo : o.size ≤ maxLen) (bo : o.size ≤ 1500000) : Calls Try.prog 6 #[.string s, .string o] w fun e w' => e = .returned (.bool true) ∧ Below w.heap.size w w' := by
  have KM := Box.mk (show ∀ wx, Below w.heap.size w wx → wx.cell? ⟨0, 0, none⟩ = some (.int .i64 m) from fun wx h => (h.cell (p := ⟨0, 0, none⟩) (World.block_lt_of_cell? w _ hm)).trans hm)
  have PS := Box.mk (parse_any s m bs w hm)
  clear hm bs ws wo bo
  obtain ⟨O, hO⟩ : ∃ O : List SM × Int, O = parseM 220 221 s.data.toList := ⟨_, rfl⟩
  unfold ParV at PS
  rw [← hO] at PS
  have HO := Box.mk hO
  clear hO
  obtain ⟨k, f⟩ := O
  dsimp only at PS
  go_enter Try.func6, Try.ntmps6
  go_wp2_with fail
  refine PS.out.mono ?_
  rintro e w1 ⟨hb, vk, rfl, how, hmay⟩
  obtain ⟨ao, cap, rfl⟩ := own_slice how
  have B1 := Box.mk hb; have OW := Box.mk how; have MY := Box.mk hmay
  clear hb how hmay PS
  go_wp2_with fail
  refine (fixed_any m _ (KM.out _ B1.out)).mono ?_
  rintro e w2 ⟨rfl, hb⟩
  have B2 := Box.mk (B1.out.trans (hb.mono B1.out.size))
  have O2 := Box.mk (ownS_below OW.out hb)
  clear hb OW B1
  by_cases hf : f = 0
  · as_aux_lemma =>
    have hfI : (f != 0) = false := by rw [bne_eq_false_iff_eq]; exact hf
    have PP : Box (printM 220 221 k = (s.data.toList, 0)) := ⟨by
      have h := HO.out.symm
      rw [hf] at h
      exact parse_print (by decide) (by decide) h⟩
    have KL := Box.mk (printM_ok (by decide) (by decide) PP.out)
    have SK := Box.mk (sums_of_own O2.out (by have := KL.out.2.2.2.1; unfold maxLen; omega) (may_sizes MY.out))
    have hn1 : (1 : Int) ≤ (k.length : Int) := by have := KL.out.2.2.1; omega
    have hn2 : (k.length : Int) ≤ 16 := by have := KL.out.2.2.2.1; omega
    have HC : Box (∀ i x, k[i]? = some x → ∃ a, ao = some a ∧ SAt w2 (a.add (i * 2)) x) := ⟨by
      obtain ⟨ao', cap', e, _, _, h⟩ := SK.out
      injection e with e1 e2 e3
      subst e1
      exact h⟩
    clear hf O2 PP
    go_wp2_with fail
    go_loopw [7, 8] (fun t i wr => ∃ (j : Nat) (b : Bool), j ≤ k.length ∧ b = (k.take j).any (isN o) ∧ t = .bool b ∧ i = .int .i64 (j : Int) ∧ Below w2.heap.size w2 wr) (fun _ i _ => k.length - (intOf i).toNat)
    case atStart => exact ⟨0, false, Nat.zero_le _, rfl, rfl, rfl, Below.refl _ _⟩
    case round =>
      obtain ⟨j, b, hj, hbe, rfl, rfl, hb⟩ := hrel
      have HB := Box.mk hb; have HBE := Box.mk hbe
      clear hb hbe
      by_cases hlt : j < k.length
      · have hltI : (j : Int) < (k.length : Int) := by omega
        obtain ⟨x, hx⟩ : ∃ s, k[j]? = some s := ⟨_, List.getElem?_eq_getElem hlt⟩
        obtain ⟨a, rfl, HA⟩ := HC.out j x hx
        obtain ⟨q0, q1⟩ := (HA.below HB.out HA.lt).flat
        have FA := Box.mk (find_any k x.name (.slice (some a) k.length cap) wr (SK.out.below HB.out))
        rw [fnd_at KL.out.2.2.2.2 hx] at FA
        have BX := Box.mk (any_snoc (o := o) hx)
        rw [← HBE.out] at BX
        have h32 : (((x.sum.size : Nat) : Int) != 32) = false := by rw [bne_eq_false_iff_eq, (MY.out x (List.mem_of_getElem? hx)).sum]; rfl
        have hss : (x.sum.toList != x.sum.toList) = false := by simp
        have BE := isN_eq o x
        have AL := Box.mk HA
        clear HA hx HBE
        go_wp2_with fail
        refine FA.out.mono ?_
        rintro e w3 ⟨rfl, hb⟩
        have B3 := Box.mk (HB.out.trans (hb.mono HB.out.size))
        clear q0 q1 hb HB FA
        obtain ⟨q0, q1⟩ := (AL.out.below B3.out AL.out.lt).flat
        clear AL
        cases b with
        | true =>
          have BN : Box (true = (k.take (j + 1)).any (isN o)) := ⟨by rw [BX.out]; rfl⟩
          clear BX
          go_wp2_with fail
          exact ⟨⟨j + 1, true, hlt, BN.out, rfl, by go_num, B3.out⟩, by simp [intOf]; omega⟩
        | false =>
          obtain ⟨c, hc⟩ : ∃ c, c = isN o x := ⟨_, rfl⟩
          rw [← hc] at BE BX
          have BN : Box (c = (k.take (j + 1)).any (isN o)) := ⟨by rw [BX.out]; rfl⟩
          clear BX hc
          go_wp2_with fail
          exact ⟨⟨j + 1, c, hlt, BN.out, rfl, by go_num, B3.out⟩, by simp [intOf]; omega⟩
      · have hltI : ¬ (j : Int) < (k.length : Int) := by omega
        obtain ⟨U, D, e1, e2⟩ := fnd_any k o
        have FO := Box.mk (find_any k o (.slice ao k.length cap) wr (SK.out.below HB.out))
        rw [e1] at FO
        have hD : (D == 0) = b := by rw [e2, HBE.out, List.take_of_length_le (by omega)]
        have hbb : (b == b) = true := by simp
        clear e1 e2 HBE
        go_wp2_with fail
        refine FO.out.mono ?_
        rintro e w3 ⟨rfl, hb⟩
        have B3 := Box.mk (B2.out.trans ((HB.out.trans (hb.mono HB.out.size)).mono B2.out.size))
        clear hb HB FO
        go_wp2_with fail
        go_ret
        exact ⟨rfl, B3.out⟩
  · as_aux_lemma =>
    have hfI : (f != 0) = true := by rw [bne_iff_ne]; exact hf
    obtain rfl : k = [] := parse_len HO.out.symm hf
    clear hf
    go_wp2_with fail
    refine (fixed_any m _ (KM.out _ B2.out)).mono ?_
    rintro e w4 ⟨rfl, hb⟩
    have B7 := Box.mk (B2.out.trans (hb.mono B2.out.size))
    clear hb
    go_wp2_with fail
    go_ret
    exact ⟨rfl, B7.out⟩
theorem own : ownKnob Try.prog.godebug = none := by kernel_rfl
theorem laidOut : laidOutB Try.prog = true := by kernel_rfl
theorem part_le {H : Type} {d : DataW H} {l : List (DataW H)} (h : d ∈ l) : Rows.uptoBulk d ≤ Rows.uptoBulkAll l := by
  induction l with
  | nil => cases h
  | cons x r ih =>
    simp only [Rows.uptoBulkAll]
    cases List.mem_cons.1 h with
    | inl e => subst e; omega
    | inr e => have := ih e; omega
theorem string_le {H : Type} {l : List (DataW H)} (hk : Rows.uptoSmall H l = true) (s : ByteArray) (h : (DataW.lit (H := H) (.string s.data.toList)) ∈ l) : s.size ≤ 1500000 := by
  have h1 := of_decide_eq_true hk
  have h2 := part_le h
  have h3 : Rows.uptoBulk (DataW.lit (H := H) (.string s.data.toList)) = s.data.toList.length + 1 := by simp [Rows.uptoBulk]
  have h4 : s.data.toList.length = s.size := Array.length_toList
  omega
theorem contract (H : Type) (enc : TypeId × Value → H) (W : World) (base : Nat) (args : Array Value) (ds gs : List (DataW H)) (before : List MemPlace)
    (hval0 : ∀ (j : Nat) t v, Try.f6.params[j]? = some t → args[j]? = some v → Value.okWide Try.prog W .any base t v)
    (hW : DataW.Whole enc Try.prog Try.f6.params.toList Rows.manifestFindsSpec.vars false W args.toList ds gs before) (hsh : W.ShapedOpen Try.prog) (hk : Rows.uptoSmall H (ds ++ gs) = true) :
    Calls Try.prog 6 args W fun e W' => ∃ v, e = .returned v ∧ Rows.manifestFindsSpec.post enc Try.prog Try.f6 false true false false W args v W' := by
  have hval : ∀ (j : Nat) t v, Try.f6.params[j]? = some t → args[j]? = some v → Value.okWide Try.prog W .any base t v := hval0
  obtain ⟨m0, hm0⟩ := cell_of_shapedOpen_int (g := 0) (zero := #[.int .i64 0]) (t := 3) hsh (of_decide_eq_true (by kernel_rfl)) (by kernel_rfl) rfl (by kernel_rfl) (by kernel_rfl) Try.underlying3
  have hW' := hW
  obtain ⟨p, q, hA0, hV, rfl, hfz, hnd⟩ := hW
  have hA : DataW.TrodAll enc Try.prog W 0 (fun _ => true) true Try.f6.params.toList args.toList ds p := hA0
  rw [Try.params6] at hA hval
  obtain ⟨v0, vs0, d0, ds0, p0, q0, hargs, rfl, rfl, h0, r0⟩ := trodAll_cons hA
  obtain ⟨v1, vs1, d1, ds1, p1, q1, rfl, rfl, rfl, h1, r1⟩ := trodAll_cons r0
  obtain ⟨rfl, rfl, rfl⟩ := trodAll_nil r1
  obtain rfl : args = #[v0, v1] := by cases args; simp_all
  obtain ⟨rfl, rfl⟩ := trodVars_none hV
  obtain ⟨s0, rfl, rfl, rfl, ws0⟩ := open_string Try.underlying9 (hval 0 9 v0 rfl rfl) h0
  obtain ⟨s1, rfl, rfl, rfl, ws1⟩ := open_string Try.underlying9 (hval 1 9 v1 rfl rfl) h1
  have bs0 : s0.size ≤ 1500000 := string_le hk s0 (by simp)
  have bs1 : s1.size ≤ 1500000 := string_le hk s1 (by simp)
  clear hA0 hval0 hk
  refine (walk W m0 hm0 s0 ws0 bs0 s1 ws1 bs1).mono fun e W' ⟨he, bel⟩ => ?_
  subst he
  exact ⟨_, rfl, _, _, _, [], _, [], hW', trodAll_mk1 (shut_bool Try.underlying4 _), (trodAll_cons_mk (shut_string Try.underlying9 ws0) (trodAll_cons_mk (shut_string Try.underlying9 ws1) trodAll_mk0)), rfl, bel.frame _, fun h => by cases h⟩
noncomputable def laidWorld (os : Os) : World := World.holding Try.prog os ⟨#[], #[], []⟩
theorem laid_met (os : Os) : laidMet Try.prog Rows.manifestFindsUptoRow.laid ((laidWorld os).forCall (fun _ _ => 0) ⟨#[], #[.string ⟨#[]⟩, .string ⟨#[]⟩], []⟩).memory :=
  laidMet_of_run' 8 (by kernel_rfl) (by kernel_rfl)
theorem reads (os : Os) {H : Type} (enc : TypeId × Value → H) : ∃ places, DataW.whole enc Try.prog ((laidWorld os).forCall (fun _ _ => 0) ⟨#[], #[.string ⟨#[]⟩, .string ⟨#[]⟩], []⟩).memory Try.f6.params.toList Rows.manifestFindsSpec.vars false (#[.string ⟨#[]⟩, .string ⟨#[]⟩] : Array Value).toList 8 = some ([.lit (.string []), .lit (.string [])], [], places) :=
  ⟨[], by kernel_rfl⟩
set_option maxRecDepth 100000 in
theorem lifted (os : Os) (started : os.Started) (H : Type) (enc : TypeId × Value → H) (F : Stop.Interp) :
    ReturnsInHanded {} Try.checked os 6 .any ((Rows.OpenSpec.upto Rows.manifestFindsSpec).preRow enc Try.prog Try.f6 Rows.manifestFindsUptoRow.domain false Rows.manifestFindsUptoRow.laid) (((Rows.OpenSpec.upto Rows.manifestFindsSpec).at F).post enc Try.prog Try.f6 false true false false) := by
  obtain ⟨places, hx⟩ := reads os enc
  refine returnsInHanded_of_row (C := Try.checked) (s := Rows.OpenSpec.upto Rows.manifestFindsSpec) own started (by kernel_rfl) Try.func6
    (witness_row_at (enc := enc) (C := Try.checked) false (laidWorld os) #[.string ⟨#[]⟩, .string ⟨#[]⟩] rfl (by kernel_rfl) (by kernel_rfl) (by kernel_rfl)
      (OpenSpec.preRow_of_cond 8 hx (by kernel_rfl) (fun k hk => by cases hk; kernel_rfl) (by kernel_rfl) (laid_met os))) ?_
  intro W base args ds gs before hval hW _ hcond _ _ hsh _
  exact contract H enc W base args ds gs before hval hW hsh (hcond _ rfl)
theorem proved : Rows.ManifestFindsUptoSaid :=
  OpenClaim.holds_of_cond 6 Try.f6 rfl rfl rfl rfl rfl rfl rfl ⟨rfl, rfl, rfl, rfl, rfl⟩ rfl rfl rfl rfl rfl (by kernel_rfl) Try.func6 (by kernel_rfl)
    (of_decide_eq_true (by kernel_rfl)) (by unfold Func.isWrapper; first | (rw [if_pos (by decide +kernel)]; kernel_rfl) | (rw [if_neg (by decide +kernel)]; exact ⟨rfl, rfl⟩))
    (fun os started H enc _ F => by rw [OpenClaim.pre_eq_preRow]; exact lifted os started H enc F)
#print axioms proved
end Go.Proofs.Ytafhncpaoolljaa.manifestFinds
