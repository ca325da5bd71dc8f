/- Whatever three strings come in, the call of CurveTimes returns true and leaves its arguments as they were. No condition. -/
import Derived.Test.YtpgichfagodkpaaCurveL
import Derived.ProofKit
import Derived.OpenShut
import Derived.ShutString
import Derived.ChangeOld
namespace Go.Proofs.Ytpgichfagodkpaa.curveTimes
open Go Go.RowKit Go.ChangeShapes Go.WideShapes Go.ChangeAt Fe
open Go.ChangeMaps (open_string shut_string)
set_option linter.unusedVariables false

set_option maxRecDepth 100000 in
set_option maxHeartbeats 4000000 in
theorem walk (k : ByteArray) (wk : k.size ≤ maxLen) (p : ByteArray) (wp : p.size ≤ maxLen) (b : ByteArray) (wb : b.size ≤ maxLen) (w : World) :
    Calls Try.prog 8 #[.string k, .string p, .string b] w fun e w' => e = .returned (.bool true) ∧ Below w.heap.size w w' := by
  clear wk wp wb
  rcases pt_or p with ⟨Pp, h⟩ | h
  ·
    have Hp := Box.mk h; clear h
    by_cases h : k.size = 32
    ·
      have Hk := Box.mk h; clear h
      by_cases h : b.size = 32
      ·
        have Hb := Box.mk h; clear h
        go_enter Try.func8, Try.ntmps8
        go_wp2_with fail
        refine (cmul Hp.out Hk.out _).mono ?_
        rintro e w1 ⟨A, HA, rfl, k⟩
        have G := Box.mk k; clear k
        go_wp2_with fail
        refine (ddmul Hp.out Hk.out _).mono ?_
        rintro e w2 ⟨B, HB, rfl, k⟩
        replace G := Box.mk (G.out.trans k); clear k
        have q1 : (A.toList == B.toList) = true := HA.out.same HB.out rfl
        go_wp2_with fail
        refine (cboth Hp.out Hk.out Hb.out _).mono ?_
        rintro e w3 ⟨C, HC, rfl, k⟩
        replace G := Box.mk (G.out.trans k); clear k
        go_wp2_with fail
        refine (ddboth Hp.out Hk.out Hb.out _).mono ?_
        rintro e w4 ⟨D, HD, rfl, k⟩
        replace G := Box.mk (G.out.trans k); clear k
        have q2 : (C.toList == D.toList) = true := HC.out.same HD.out rfl
        go_wp2_with fail
        refine (Fe.lfixed_any _).mono ?_
        rintro e w5 ⟨rfl, k⟩
        replace G := Box.mk (G.out.trans k); clear k
        go_wp2
        go_ret
        exact ⟨rfl, G.out⟩
      ·
        have Hb := Box.mk h; clear h
        go_enter Try.func8, Try.ntmps8
        go_wp2_with fail
        refine (cmul Hp.out Hk.out _).mono ?_
        rintro e w6 ⟨A, HA, rfl, k⟩
        have G := Box.mk k; clear k
        go_wp2_with fail
        refine (ddmul Hp.out Hk.out _).mono ?_
        rintro e w7 ⟨B, HB, rfl, k⟩
        replace G := Box.mk (G.out.trans k); clear k
        have q1 : (A.toList == B.toList) = true := HA.out.same HB.out rfl
        go_wp2_with fail
        refine (cboth_no (a := p) (k := k) (m := b) (.inr (.inr Hb.out)) _).mono ?_
        rintro e w8 ⟨rfl, k⟩
        replace G := Box.mk (G.out.trans k); clear k
        go_wp2_with fail
        refine (ddboth_no (a := p) (k := k) (m := b) (.inr (.inr Hb.out)) _).mono ?_
        rintro e w9 ⟨rfl, k⟩
        replace G := Box.mk (G.out.trans k); clear k
        go_wp2_with fail
        refine (Fe.lfixed_any _).mono ?_
        rintro e w10 ⟨rfl, k⟩
        replace G := Box.mk (G.out.trans k); clear k
        go_wp2
        go_ret
        exact ⟨rfl, G.out⟩
    ·
      have Hk := Box.mk h; clear h
      go_enter Try.func8, Try.ntmps8
      go_wp2_with fail
      refine (mul_no (a := p) (k := k) (.inr Hk.out) _).mono ?_
      rintro e w11 ⟨rfl, k⟩
      have G := Box.mk k; clear k
      go_wp2_with fail
      refine (ddmul_no (a := p) (k := k) (.inr Hk.out) _).mono ?_
      rintro e w12 ⟨rfl, k⟩
      replace G := Box.mk (G.out.trans k); clear k
      go_wp2_with fail
      refine (cboth_no (a := p) (k := k) (m := b) (.inr (.inl Hk.out)) _).mono ?_
      rintro e w13 ⟨rfl, k⟩
      replace G := Box.mk (G.out.trans k); clear k
      go_wp2_with fail
      refine (ddboth_no (a := p) (k := k) (m := b) (.inr (.inl Hk.out)) _).mono ?_
      rintro e w14 ⟨rfl, k⟩
      replace G := Box.mk (G.out.trans k); clear k
      go_wp2_with fail
      refine (Fe.lfixed_any _).mono ?_
      rintro e w15 ⟨rfl, k⟩
      replace G := Box.mk (G.out.trans k); clear k
      go_wp2
      go_ret
      exact ⟨rfl, G.out⟩
  ·
    have Hp := Box.mk h; clear h
    go_enter Try.func8, Try.ntmps8
    go_wp2_with fail
    refine (mul_no (a := p) (k := k) (.inl Hp.out) _).mono ?_
    rintro e w16 ⟨rfl, k⟩
    have G := Box.mk k; clear k
    go_wp2_with fail
    refine (ddmul_no (a := p) (k := k) (.inl Hp.out) _).mono ?_
    rintro e w17 ⟨rfl, k⟩
    replace G := Box.mk (G.out.trans k); clear k
    go_wp2_with fail
    refine (cboth_no (a := p) (k := k) (m := b) (.inl Hp.out) _).mono ?_
    rintro e w18 ⟨rfl, k⟩
    replace G := Box.mk (G.out.trans k); clear k
    go_wp2_with fail
    refine (ddboth_no (a := p) (k := k) (m := b) (.inl Hp.out) _).mono ?_
    rintro e w19 ⟨rfl, k⟩
    replace G := Box.mk (G.out.trans k); clear k
    go_wp2_with fail
    refine (Fe.lfixed_any _).mono ?_
    rintro e w20 ⟨rfl, k⟩
    replace G := Box.mk (G.out.trans k); clear k
    go_wp2
    go_ret
    exact ⟨rfl, G.out⟩
theorem own : ownKnob Try.prog.godebug = none := by kernel_rfl
theorem laidOut : laidOutB Try.prog = true := by kernel_rfl
set_option maxRecDepth 100000 in
theorem lifted (os : Os) (started : os.Started) (H : Type) (enc : TypeId × Value → H) :
    ReturnsInHanded {} Try.checked os 8 .any (Rows.curveTimesSpec.pre6 enc Try.prog Try.f8 Rows.curveTimesRow.domain false) (Rows.curveTimesSpec.post enc Try.prog Try.f8 false true false false) := by
  refine returnsInHanded_of_change (C := Try.checked) own started (by kernel_rfl) Try.func8
    (ChangeSpec.witness6 (enc := enc) (C := Try.checked) false ⟨#[], #[.string ⟨#[]⟩, .string ⟨#[]⟩, .string ⟨#[]⟩], []⟩ 8 (by kernel_rfl) (by kernel_rfl) (by kernel_rfl) (by kernel_rfl)) ?_
  intro W base args ds gs before hval0 hW hcnd _
  have hval : ∀ (j : Nat) t v, Try.f8.params[j]? = some t → args[j]? = some v → Value.okWide Try.prog W .any base t v := hval0
  have hW' := hW
  obtain ⟨p, q, hA0, hV, rfl, hfz, hnd⟩ := hW
  have hA : DataW.TrodAll enc Try.prog W 0 (fun _ => true) true Try.f8.params.toList args.toList ds p := hA0
  rw [Try.params8] at hA hval
  obtain ⟨v0, vs0, d0, ds0, p0, q0, hargs, rfl, rfl, h0, r0⟩ := trodAll_cons hA
  obtain ⟨v1, vs1, d1, ds1, p1, q1, rfl, rfl, rfl, h1, r1⟩ := trodAll_cons r0
  obtain ⟨v2, vs2, d2, ds2, p2, q2, rfl, rfl, rfl, h2, r2⟩ := trodAll_cons r1
  obtain ⟨rfl, rfl, rfl⟩ := trodAll_nil r2
  obtain rfl : args = #[v0, v1, v2] := by cases args; simp_all
  obtain ⟨rfl, rfl⟩ := trodVars_none hV
  obtain ⟨s0, rfl, rfl, rfl, ws0⟩ := open_string Try.underlying9 (hval 0 9 v0 rfl rfl) h0
  obtain ⟨s1, rfl, rfl, rfl, ws1⟩ := open_string Try.underlying9 (hval 1 9 v1 rfl rfl) h1
  obtain ⟨s2, rfl, rfl, rfl, ws2⟩ := open_string Try.underlying9 (hval 2 9 v2 rfl rfl) h2
  clear hA0 hval0
  refine (walk s0 ws0 s1 ws1 s2 ws2 W).mono fun e W' ⟨he, bel⟩ => ?_
  subst he
  exact ⟨_, rfl, _, _, _, [], _, [], hW', trodAll_mk1 (shut_bool Try.underlying4 _), (trodAll_cons_mk (shut_string Try.underlying9 ws0) (trodAll_cons_mk (shut_string Try.underlying9 ws1) (trodAll_cons_mk (shut_string Try.underlying9 ws2) trodAll_mk0))), rfl, bel.frame _, fun h => by cases h⟩

theorem proved : Rows.CurveTimesSaid :=
  OpenClaim.holds_of_wide 8 Try.f8 rfl rfl rfl rfl rfl rfl rfl ⟨rfl, rfl, rfl, rfl, rfl⟩ rfl rfl rfl rfl rfl (by kernel_rfl) Try.func8 (by kernel_rfl)
    (of_decide_eq_true (by kernel_rfl)) (by unfold Func.isWrapper; first | (rw [if_pos (by decide +kernel)]; kernel_rfl) | (rw [if_neg (by decide +kernel)]; exact ⟨rfl, rfl⟩))
    (fun os started H enc _ => lifted os started H enc)
#print axioms proved
end Go.Proofs.Ytpgichfagodkpaa.curveTimes
