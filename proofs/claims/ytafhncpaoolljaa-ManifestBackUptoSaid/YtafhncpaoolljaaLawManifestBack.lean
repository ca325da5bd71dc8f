/- Whatever sums and whatever text come in, the call of ManifestBack returns true and leaves its arguments as they were. Of arguments of at most 1048576 values and letters together. -/
import Derived.Test.YtafhncpaoolljaaManV
import Derived.Test.YtafhncpaoolljaaManL
import Derived.ProofKit
import Derived.OpenShut
import Derived.ShutString
import Derived.ChangeOld
import Derived.HandedShaped
import Derived.Shelf.Vars
import Derived.Deep.DeepHandedRow
import Derived.Lib.LaidTab
import Derived.JoinedCond
namespace Go.Proofs.Ytafhncpaoolljaa.manifestBack
set_option maxRecDepth 100000
open Go Go.RowKit Go.ChangeShapes Go.WideShapes Go.ChangeAt
open Go.ChangeMaps (open_string shut_string)
set_option linter.unusedVariables false

theorem textM_len : ∀ (l : List SM), (∀ x ∈ l, x.May) → (textM l).length ≤ l.length * 200
  | [], _ => by simp [textM]
  | x :: l, h => by
    have hx := h x List.mem_cons_self
    have h1 := textM_len l (fun y hy => h y (List.mem_cons_of_mem _ hy))
    have h2 := SM.hex_len hx
    have h3 := hx.few
    have h4 := ba_len x.name
    rw [textM_cons, List.length_append, List.length_cons, List.length_cons]
    unfold SM.head
    rw [List.length_append, List.length_append, List.length_cons, List.length_cons, List.length_nil]
    omega
theorem may_sizes {l : List SM} (h : ∀ x ∈ l, x.May) : ∀ x ∈ l, x.name.size ≤ maxLen ∧ x.sum.size ≤ maxLen := fun x hx => by
  have := (h x hx).sum; have := (h x hx).few; unfold maxLen; omega
theorem ba_back (s : ByteArray) : (⟨s.data.toList.toArray⟩ : ByteArray) = s := by cases s; simp
set_option maxHeartbeats 4000000 in
theorem walk (w : World) (m : Int) (hm : w.cell? ⟨0, 0, none⟩ = some (.int .i64 m)) {v : Value} (l : List SM) (h : SumsS w v l) (s : ByteArray) (ws : s.size ≤ maxLen) (bs : s.size ≤ 1500000) : Calls Try.prog 5 #[v, .string s] w fun e w' => e = .returned (.bool true) ∧ Below w.heap.size w w' := by
  have H0 := Box.mk h
  have P1 := Box.mk (fun w h => print_any l v w h)
  obtain ⟨T, C, e1, e2, e3⟩ : ∃ (T : ByteArray) (C : Int), prV l = .tuple #[.string T, .int .i64 C] ∧ C = (printM 220 221 l).2 ∧ T.data.toList = (printM 220 221 l).1 := ⟨_, _, rfl, rfl, by simp⟩
  have HTC := Box.mk (And.intro e2 e3)
  rw [e1] at P1
  have KM := Box.mk (show ∀ wx, Below w.heap.size w wx → wx.cell? ⟨0, 0, none⟩ = some (.int .i64 m) from fun wx h => (h.cell (p := ⟨0, 0, none⟩) (World.block_lt_of_cell? w _ hm)).trans hm)
  have BS := Box.mk bs
  clear hm h e1 e2 e3 bs ws
  obtain ⟨O, hO⟩ : ∃ O : List SM × Int, O = parseM 220 221 s.data.toList := ⟨_, rfl⟩
  have PS := Box.mk (fun w h => parse_any s m BS.out w h)
  unfold ParV at PS
  rw [← hO] at PS
  have HO := Box.mk hO
  clear hO
  obtain ⟨k, f⟩ := O
  dsimp only at PS
  have hss : (s.toList == s.toList) = true := by simp
  go_enter Try.func5, Try.ntmps5
  go_wp2_with fail
  refine (P1.out _ H0.out).mono ?_
  rintro e w1 ⟨rfl, hb⟩
  have B1 := Box.mk hb
  clear hb P1
  by_cases hc : C = 0
  · have hcI : (C == 0) = true := by rw [beq_iff_eq]; exact hc
    have PP : Box (printM 220 221 l = (T.data.toList, 0)) := ⟨by rw [HTC.out.2, ← hc, HTC.out.1]⟩
    have KL := Box.mk (printM_ok (by decide) (by decide) PP.out)
    have TB : T.size ≤ 1500000 := by
      have h1 := textM_len l KL.out.2.1
      rw [← KL.out.1, ba_len] at h1
      have := KL.out.2.2.2.1
      omega
    have PT := Box.mk (parse_any T m TB _ (KM.out _ B1.out))
    have e1 : parseM 220 221 T.data.toList = (l, 0) := print_parse (by decide) (by decide) PP.out
    unfold ParV at PT
    rw [e1] at PT
    dsimp only at PT
    clear hc e1 TB
    go_wp2_with fail
    refine PT.out.mono ?_
    rintro e w2 ⟨hb, vl, rfl, how, hmay⟩
    have B2 := Box.mk (B1.out.trans (hb.mono B1.out.size))
    have SM1 := Box.mk (same_any l l vl v _ (sums_of_own how (by have := KL.out.2.2.2.1; unfold maxLen; omega) (may_sizes hmay)) (H0.out.below B2.out))
    rw [decide_eq_true rfl] at SM1
    clear hb how hmay PT PP KL
    go_wp2_with fail
    refine SM1.out.mono ?_
    rintro e w3 ⟨rfl, hb⟩
    have B4 := Box.mk (B2.out.trans (hb.mono B2.out.size))
    clear hb SM1
    go_wp2_with fail
    refine (PS.out _ (KM.out _ B4.out)).mono ?_
    rintro e w2 ⟨hb, vk, rfl, how, hmay⟩
    obtain ⟨ao, cap, rfl⟩ := own_slice how
    have B5 := Box.mk (B4.out.trans (hb.mono B4.out.size))
    have OW := Box.mk how; have MY := Box.mk hmay
    clear hb how hmay PS
    by_cases hf : f = 0
    · as_aux_lemma =>
      have hfI : (f != 0) = false := by rw [bne_eq_false_iff_eq]; exact hf
      have PP : Box (printM 220 221 k = (s.data.toList, 0)) := ⟨by
        have h := HO.out.symm
        rw [hf] at h
        exact parse_print (by decide) (by decide) h⟩
      have KL := Box.mk (printM_ok (by decide) (by decide) PP.out)
      have PK := Box.mk (print_any k (.slice ao k.length cap) _ (sums_of_own OW.out (by have := KL.out.2.2.2.1; unfold maxLen; omega) (may_sizes MY.out)))
      have e1 : prV k = .tuple #[.string s, .int .i64 0] := by unfold prV; rw [PP.out, ba_back]
      rw [e1] at PK
      clear hf e1 OW MY PP KL
      go_wp2_with fail
      refine PK.out.mono ?_
      rintro e w3 ⟨rfl, hb⟩
      have B6 := Box.mk (B5.out.trans (hb.mono B5.out.size))
      clear hb PK
      go_wp2_with fail
      refine (fixed_any m _ (KM.out _ B6.out)).mono ?_
      rintro e w4 ⟨rfl, hb⟩
      have B7 := Box.mk (B6.out.trans (hb.mono B6.out.size))
      clear hb
      go_wp2_with fail
      go_ret
      exact ⟨rfl, B7.out⟩
    · as_aux_lemma =>
      have hfI : (f != 0) = true := by rw [bne_iff_ne]; exact hf
      obtain rfl : k = [] := parse_len HO.out.symm hf
      clear hf
      go_wp2_with fail
      refine (fixed_any m _ (KM.out _ B5.out)).mono ?_
      rintro e w4 ⟨rfl, hb⟩
      have B7 := Box.mk (B5.out.trans (hb.mono B5.out.size))
      clear hb
      go_wp2_with fail
      go_ret
      exact ⟨rfl, B7.out⟩
  · have hcI : (C == 0) = false := by rw [beq_eq_false_iff_ne]; exact hc
    clear hc
    go_wp2_with fail
    refine (PS.out _ (KM.out _ B1.out)).mono ?_
    rintro e w2 ⟨hb, vk, rfl, how, hmay⟩
    obtain ⟨ao, cap, rfl⟩ := own_slice how
    have B5 := Box.mk (B1.out.trans (hb.mono B1.out.size))
    have OW := Box.mk how; have MY := Box.mk hmay
    clear hb how hmay PS
    by_cases hf : f = 0
    · as_aux_lemma =>
      have hfI : (f != 0) = false := by rw [bne_eq_false_iff_eq]; exact hf
      have PP : Box (printM 220 221 k = (s.data.toList, 0)) := ⟨by
        have h := HO.out.symm
        rw [hf] at h
        exact parse_print (by decide) (by decide) h⟩
      have KL := Box.mk (printM_ok (by decide) (by decide) PP.out)
      have PK := Box.mk (print_any k (.slice ao k.length cap) _ (sums_of_own OW.out (by have := KL.out.2.2.2.1; unfold maxLen; omega) (may_sizes MY.out)))
      have e1 : prV k = .tuple #[.string s, .int .i64 0] := by unfold prV; rw [PP.out, ba_back]
      rw [e1] at PK
      clear hf e1 OW MY PP KL
      go_wp2_with fail
      refine PK.out.mono ?_
      rintro e w3 ⟨rfl, hb⟩
      have B6 := Box.mk (B5.out.trans (hb.mono B5.out.size))
      clear hb PK
      go_wp2_with fail
      refine (fixed_any m _ (KM.out _ B6.out)).mono ?_
      rintro e w4 ⟨rfl, hb⟩
      have B7 := Box.mk (B6.out.trans (hb.mono B6.out.size))
      clear hb
      go_wp2_with fail
      go_ret
      exact ⟨rfl, B7.out⟩
    · as_aux_lemma =>
      have hfI : (f != 0) = true := by rw [bne_iff_ne]; exact hf
      obtain rfl : k = [] := parse_len HO.out.symm hf
      clear hf
      go_wp2_with fail
      refine (fixed_any m _ (KM.out _ B5.out)).mono ?_
      rintro e w4 ⟨rfl, hb⟩
      have B7 := Box.mk (B5.out.trans (hb.mono B5.out.size))
      clear hb
      go_wp2_with fail
      go_ret
      exact ⟨rfl, B7.out⟩
theorem own : ownKnob Try.prog.godebug = none := by kernel_rfl
theorem laidOut : laidOutB Try.prog = true := by kernel_rfl
theorem part_le {H : Type} {d : DataW H} {l : List (DataW H)} (h : d ∈ l) : Rows.uptoBulk d ≤ Rows.uptoBulkAll l := by
  induction l with
  | nil => cases h
  | cons x r ih =>
    simp only [Rows.uptoBulkAll]
    cases List.mem_cons.1 h with
    | inl e => subst e; omega
    | inr e => have := ih e; omega
theorem string_le {H : Type} {l : List (DataW H)} (hk : Rows.uptoSmall H l = true) (s : ByteArray) (h : (DataW.lit (H := H) (.string s.data.toList)) ∈ l) : s.size ≤ 1500000 := by
  have h1 := of_decide_eq_true hk
  have h2 := part_le h
  have h3 : Rows.uptoBulk (DataW.lit (H := H) (.string s.data.toList)) = s.data.toList.length + 1 := by simp [Rows.uptoBulk]
  have h4 : s.data.toList.length = s.size := Array.length_toList
  omega
theorem contract (H : Type) (enc : TypeId × Value → H) (W : World) (base : Nat) (args : Array Value) (ds gs : List (DataW H)) (before : List MemPlace)
    (hval0 : ∀ (j : Nat) t v, Try.f5.params[j]? = some t → args[j]? = some v → Value.okWide Try.prog W .any base t v)
    (hW : DataW.Whole enc Try.prog Try.f5.params.toList Rows.manifestBackSpec.vars false W args.toList ds gs before) (hsh : W.ShapedOpen Try.prog) (hk : Rows.uptoSmall H (ds ++ gs) = true) :
    Calls Try.prog 5 args W fun e W' => ∃ v, e = .returned v ∧ Rows.manifestBackSpec.post enc Try.prog Try.f5 false true false false W args v W' := by
  have hval : ∀ (j : Nat) t v, Try.f5.params[j]? = some t → args[j]? = some v → Value.okWide Try.prog W .any base t v := hval0
  obtain ⟨m0, hm0⟩ := cell_of_shapedOpen_int (g := 0) (zero := #[.int .i64 0]) (t := 3) hsh (of_decide_eq_true (by kernel_rfl)) (by kernel_rfl) rfl (by kernel_rfl) (by kernel_rfl) Try.underlying3
  have hW' := hW
  obtain ⟨p, q, hA0, hV, rfl, hfz, hnd⟩ := hW
  have hA : DataW.TrodAll enc Try.prog W 0 (fun _ => true) true Try.f5.params.toList args.toList ds p := hA0
  rw [Try.params5] at hA hval
  obtain ⟨v0, vs0, d0, ds0, p0, q0, hargs, rfl, rfl, h0, r0⟩ := trodAll_cons hA
  obtain ⟨v1, vs1, d1, ds1, p1, q1, rfl, rfl, rfl, h1, r1⟩ := trodAll_cons r0
  obtain ⟨rfl, rfl, rfl⟩ := trodAll_nil r1
  obtain rfl : args = #[v0, v1] := by cases args; simp_all
  obtain ⟨rfl, rfl⟩ := trodVars_none hV
  obtain ⟨s1, rfl, rfl, rfl, ws1⟩ := open_string Try.underlying9 (hval 1 9 v1 rfl rfl) h1
  obtain ⟨l0, hl0⟩ := open_sums (hval 0 22 v0 rfl rfl) h0
  have bs1 : s1.size ≤ 1500000 := string_le hk s1 (by simp)
  clear hA0 hval0 hk
  refine (walk W m0 hm0 l0 hl0 s1 ws1 bs1).mono fun e W' ⟨he, bel⟩ => ?_
  subst he
  exact ⟨_, rfl, _, _, _, [], _, [], hW', trodAll_mk1 (shut_bool Try.underlying4 _), (trodAll_cons_mk (Below.trod laidOut (by kernel_rfl) (of_decide_eq_true (by kernel_rfl)) h0 bel (by obtain ⟨f, hf⟩ := h0; exact DataW.trod_lt _ _ _ _ hf)) (trodAll_cons_mk (shut_string Try.underlying9 ws1) trodAll_mk0)), rfl, bel.frame _, fun h => by cases h⟩
noncomputable def laidWorld (os : Os) : World := World.holding Try.prog os ⟨#[], #[], []⟩
theorem laid_met (os : Os) : laidMet Try.prog Rows.manifestBackUptoRow.laid ((laidWorld os).forCall (fun _ _ => 0) ⟨#[], #[.slice none 0 0, .string ⟨#[]⟩], []⟩).memory :=
  laidMet_of_run' 8 (by kernel_rfl) (by kernel_rfl)
theorem reads (os : Os) {H : Type} (enc : TypeId × Value → H) : ∃ places, DataW.whole enc Try.prog ((laidWorld os).forCall (fun _ _ => 0) ⟨#[], #[.slice none 0 0, .string ⟨#[]⟩], []⟩).memory Try.f5.params.toList Rows.manifestBackSpec.vars false (#[.slice none 0 0, .string ⟨#[]⟩] : Array Value).toList 8 = some ([.nil, .lit (.string [])], [], places) :=
  ⟨[], by kernel_rfl⟩
set_option maxRecDepth 100000 in
theorem lifted (os : Os) (started : os.Started) (H : Type) (enc : TypeId × Value → H) (F : Stop.Interp) :
    ReturnsInHanded {} Try.checked os 5 .any ((Rows.OpenSpec.upto Rows.manifestBackSpec).preRow enc Try.prog Try.f5 Rows.manifestBackUptoRow.domain false Rows.manifestBackUptoRow.laid) (((Rows.OpenSpec.upto Rows.manifestBackSpec).at F).post enc Try.prog Try.f5 false true false false) := by
  obtain ⟨places, hx⟩ := reads os enc
  refine returnsInHanded_of_row (C := Try.checked) (s := Rows.OpenSpec.upto Rows.manifestBackSpec) own started (by kernel_rfl) Try.func5
    (witness_row_at (enc := enc) (C := Try.checked) false (laidWorld os) #[.slice none 0 0, .string ⟨#[]⟩] rfl (by kernel_rfl) (by kernel_rfl) (by kernel_rfl)
      (OpenSpec.preRow_of_cond 8 hx (by kernel_rfl) (fun k hk => by cases hk; kernel_rfl) (by kernel_rfl) (laid_met os))) ?_
  intro W base args ds gs before hval hW _ hcond _ _ hsh _
  exact contract H enc W base args ds gs before hval hW hsh (hcond _ rfl)
theorem proved : Rows.ManifestBackUptoSaid :=
  OpenClaim.holds_of_cond 5 Try.f5 rfl rfl rfl rfl rfl rfl rfl ⟨rfl, rfl, rfl, rfl, rfl⟩ rfl rfl rfl rfl rfl (by kernel_rfl) Try.func5 (by kernel_rfl)
    (of_decide_eq_true (by kernel_rfl)) (by unfold Func.isWrapper; first | (rw [if_pos (by decide +kernel)]; kernel_rfl) | (rw [if_neg (by decide +kernel)]; exact ⟨rfl, rfl⟩))
    (fun os started H enc _ F => by rw [OpenClaim.pre_eq_preRow]; exact lifted os started H enc F)
#print axioms proved
end Go.Proofs.Ytafhncpaoolljaa.manifestBack
