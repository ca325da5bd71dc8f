/- Whatever two strings come in, the call of CurvePoints returns true and leaves its arguments as they were. No condition. -/
import Derived.Test.YtpgichfagodkpaaCurveL
import Derived.ProofKit
import Derived.OpenShut
import Derived.ShutString
import Derived.ChangeOld
namespace Go.Proofs.Ytpgichfagodkpaa.curvePoints
open Go Go.RowKit Go.ChangeShapes Go.WideShapes Go.ChangeAt Fe
open Go.ChangeMaps (open_string shut_string)
set_option linter.unusedVariables false

set_option maxRecDepth 100000 in
set_option maxHeartbeats 4000000 in
theorem walk (p : ByteArray) (wp : p.size ≤ maxLen) (q : ByteArray) (wq : q.size ≤ maxLen) (w : World) :
    Calls Try.prog 3 #[.string p, .string q] w fun e w' => e = .returned (.bool true) ∧ Below w.heap.size w w' := by
  clear wp wq
  rcases pt_or p with ⟨Pp, h⟩ | h
  ·
    have Hp := Box.mk h; clear h
    rcases pt_or q with ⟨Pq, h⟩ | h
    ·
      have Hq := Box.mk h; clear h
      go_enter Try.func3, Try.ntmps3
      go_wp2_with fail
      refine (cadd Hp.out Hq.out _).mono ?_
      rintro e w1 ⟨A, HA, rfl, k⟩
      have G := Box.mk k; clear k
      go_wp2_with fail
      refine (ddadd Hp.out Hq.out _).mono ?_
      rintro e w2 ⟨B, HB, rfl, k⟩
      replace G := Box.mk (G.out.trans k); clear k
      have q1 : (A.toList == B.toList) = true := HA.out.same HB.out rfl
      go_wp2_with fail
      refine (cneg Hp.out _).mono ?_
      rintro e w3 ⟨C, HC, rfl, k⟩
      replace G := Box.mk (G.out.trans k); clear k
      go_wp2_with fail
      refine (ddneg Hp.out _).mono ?_
      rintro e w4 ⟨D, HD, rfl, k⟩
      replace G := Box.mk (G.out.trans k); clear k
      have q2 : (C.toList == D.toList) = true := HC.out.same HD.out rfl
      go_wp2_with fail
      refine (Fe.lfixed_any _).mono ?_
      rintro e w5 ⟨rfl, k⟩
      replace G := Box.mk (G.out.trans k); clear k
      go_wp2_with fail
      refine (cis Hp.out _).mono ?_
      rintro e w6 ⟨rfl, k⟩
      replace G := Box.mk (G.out.trans k); clear k
      go_wp2_with fail
      refine (ddis Hp.out _).mono ?_
      rintro e w7 ⟨rfl, k⟩
      replace G := Box.mk (G.out.trans k); clear k
      go_wp2_with fail
      refine (cis Hq.out _).mono ?_
      rintro e w8 ⟨rfl, k⟩
      replace G := Box.mk (G.out.trans k); clear k
      go_wp2_with fail
      refine (ddis Hq.out _).mono ?_
      rintro e w9 ⟨rfl, k⟩
      replace G := Box.mk (G.out.trans k); clear k
      go_wp2_with fail
      refine (cbase _).mono ?_
      rintro e w10 ⟨E, HE, rfl, k⟩
      replace G := Box.mk (G.out.trans k); clear k
      go_wp2_with fail
      refine (ddbase _).mono ?_
      rintro e w11 ⟨F, HF, rfl, k⟩
      replace G := Box.mk (G.out.trans k); clear k
      have q3 : (E.toList == F.toList) = true := HE.out.same HF.out rfl
      go_wp2_with fail
      refine (czero _).mono ?_
      rintro e w12 ⟨I, HI, rfl, k⟩
      replace G := Box.mk (G.out.trans k); clear k
      go_wp2_with fail
      refine (ddzero _).mono ?_
      rintro e w13 ⟨J, HJ, rfl, k⟩
      replace G := Box.mk (G.out.trans k); clear k
      have q4 : (I.toList == J.toList) = true := HI.out.same HJ.out rfl
      go_wp2
      go_ret
      exact ⟨rfl, G.out⟩
    ·
      have Hq := Box.mk h; clear h
      go_enter Try.func3, Try.ntmps3
      go_wp2_with fail
      refine (cadd_no (a := p) (b := q) (.inr Hq.out) _).mono ?_
      rintro e w14 ⟨rfl, k⟩
      have G := Box.mk k; clear k
      go_wp2_with fail
      refine (ddadd_no (a := p) (b := q) (.inr Hq.out) _).mono ?_
      rintro e w15 ⟨rfl, k⟩
      replace G := Box.mk (G.out.trans k); clear k
      go_wp2_with fail
      refine (cneg Hp.out _).mono ?_
      rintro e w16 ⟨C, HC, rfl, k⟩
      replace G := Box.mk (G.out.trans k); clear k
      go_wp2_with fail
      refine (ddneg Hp.out _).mono ?_
      rintro e w17 ⟨D, HD, rfl, k⟩
      replace G := Box.mk (G.out.trans k); clear k
      have q2 : (C.toList == D.toList) = true := HC.out.same HD.out rfl
      go_wp2_with fail
      refine (Fe.lfixed_any _).mono ?_
      rintro e w18 ⟨rfl, k⟩
      replace G := Box.mk (G.out.trans k); clear k
      go_wp2_with fail
      refine (cis Hp.out _).mono ?_
      rintro e w19 ⟨rfl, k⟩
      replace G := Box.mk (G.out.trans k); clear k
      go_wp2_with fail
      refine (ddis Hp.out _).mono ?_
      rintro e w20 ⟨rfl, k⟩
      replace G := Box.mk (G.out.trans k); clear k
      go_wp2_with fail
      refine (cis_no Hq.out _).mono ?_
      rintro e w21 ⟨rfl, k⟩
      replace G := Box.mk (G.out.trans k); clear k
      go_wp2_with fail
      refine (ddis_no Hq.out _).mono ?_
      rintro e w22 ⟨rfl, k⟩
      replace G := Box.mk (G.out.trans k); clear k
      go_wp2_with fail
      refine (cbase _).mono ?_
      rintro e w23 ⟨E, HE, rfl, k⟩
      replace G := Box.mk (G.out.trans k); clear k
      go_wp2_with fail
      refine (ddbase _).mono ?_
      rintro e w24 ⟨F, HF, rfl, k⟩
      replace G := Box.mk (G.out.trans k); clear k
      have q3 : (E.toList == F.toList) = true := HE.out.same HF.out rfl
      go_wp2_with fail
      refine (czero _).mono ?_
      rintro e w25 ⟨I, HI, rfl, k⟩
      replace G := Box.mk (G.out.trans k); clear k
      go_wp2_with fail
      refine (ddzero _).mono ?_
      rintro e w26 ⟨J, HJ, rfl, k⟩
      replace G := Box.mk (G.out.trans k); clear k
      have q4 : (I.toList == J.toList) = true := HI.out.same HJ.out rfl
      go_wp2
      go_ret
      exact ⟨rfl, G.out⟩
  ·
    have Hp := Box.mk h; clear h
    rcases pt_or q with ⟨Pq, h⟩ | h
    ·
      have Hq := Box.mk h; clear h
      go_enter Try.func3, Try.ntmps3
      go_wp2_with fail
      refine (cadd_no (a := p) (b := q) (.inl Hp.out) _).mono ?_
      rintro e w27 ⟨rfl, k⟩
      have G := Box.mk k; clear k
      go_wp2_with fail
      refine (ddadd_no (a := p) (b := q) (.inl Hp.out) _).mono ?_
      rintro e w28 ⟨rfl, k⟩
      replace G := Box.mk (G.out.trans k); clear k
      go_wp2_with fail
      refine (cneg_no Hp.out _).mono ?_
      rintro e w29 ⟨rfl, k⟩
      replace G := Box.mk (G.out.trans k); clear k
      go_wp2_with fail
      refine (ddneg_no Hp.out _).mono ?_
      rintro e w30 ⟨rfl, k⟩
      replace G := Box.mk (G.out.trans k); clear k
      go_wp2_with fail
      refine (Fe.lfixed_any _).mono ?_
      rintro e w31 ⟨rfl, k⟩
      replace G := Box.mk (G.out.trans k); clear k
      go_wp2_with fail
      refine (cis_no Hp.out _).mono ?_
      rintro e w32 ⟨rfl, k⟩
      replace G := Box.mk (G.out.trans k); clear k
      go_wp2_with fail
      refine (ddis_no Hp.out _).mono ?_
      rintro e w33 ⟨rfl, k⟩
      replace G := Box.mk (G.out.trans k); clear k
      go_wp2_with fail
      refine (cis Hq.out _).mono ?_
      rintro e w34 ⟨rfl, k⟩
      replace G := Box.mk (G.out.trans k); clear k
      go_wp2_with fail
      refine (ddis Hq.out _).mono ?_
      rintro e w35 ⟨rfl, k⟩
      replace G := Box.mk (G.out.trans k); clear k
      go_wp2_with fail
      refine (cbase _).mono ?_
      rintro e w36 ⟨E, HE, rfl, k⟩
      replace G := Box.mk (G.out.trans k); clear k
      go_wp2_with fail
      refine (ddbase _).mono ?_
      rintro e w37 ⟨F, HF, rfl, k⟩
      replace G := Box.mk (G.out.trans k); clear k
      have q3 : (E.toList == F.toList) = true := HE.out.same HF.out rfl
      go_wp2_with fail
      refine (czero _).mono ?_
      rintro e w38 ⟨I, HI, rfl, k⟩
      replace G := Box.mk (G.out.trans k); clear k
      go_wp2_with fail
      refine (ddzero _).mono ?_
      rintro e w39 ⟨J, HJ, rfl, k⟩
      replace G := Box.mk (G.out.trans k); clear k
      have q4 : (I.toList == J.toList) = true := HI.out.same HJ.out rfl
      go_wp2
      go_ret
      exact ⟨rfl, G.out⟩
    ·
      have Hq := Box.mk h; clear h
      go_enter Try.func3, Try.ntmps3
      go_wp2_with fail
      refine (cadd_no (a := p) (b := q) (.inl Hp.out) _).mono ?_
      rintro e w40 ⟨rfl, k⟩
      have G := Box.mk k; clear k
      go_wp2_with fail
      refine (ddadd_no (a := p) (b := q) (.inl Hp.out) _).mono ?_
      rintro e w41 ⟨rfl, k⟩
      replace G := Box.mk (G.out.trans k); clear k
      go_wp2_with fail
      refine (cneg_no Hp.out _).mono ?_
      rintro e w42 ⟨rfl, k⟩
      replace G := Box.mk (G.out.trans k); clear k
      go_wp2_with fail
      refine (ddneg_no Hp.out _).mono ?_
      rintro e w43 ⟨rfl, k⟩
      replace G := Box.mk (G.out.trans k); clear k
      go_wp2_with fail
      refine (Fe.lfixed_any _).mono ?_
      rintro e w44 ⟨rfl, k⟩
      replace G := Box.mk (G.out.trans k); clear k
      go_wp2_with fail
      refine (cis_no Hp.out _).mono ?_
      rintro e w45 ⟨rfl, k⟩
      replace G := Box.mk (G.out.trans k); clear k
      go_wp2_with fail
      refine (ddis_no Hp.out _).mono ?_
      rintro e w46 ⟨rfl, k⟩
      replace G := Box.mk (G.out.trans k); clear k
      go_wp2_with fail
      refine (cis_no Hq.out _).mono ?_
      rintro e w47 ⟨rfl, k⟩
      replace G := Box.mk (G.out.trans k); clear k
      go_wp2_with fail
      refine (ddis_no Hq.out _).mono ?_
      rintro e w48 ⟨rfl, k⟩
      replace G := Box.mk (G.out.trans k); clear k
      go_wp2_with fail
      refine (cbase _).mono ?_
      rintro e w49 ⟨E, HE, rfl, k⟩
      replace G := Box.mk (G.out.trans k); clear k
      go_wp2_with fail
      refine (ddbase _).mono ?_
      rintro e w50 ⟨F, HF, rfl, k⟩
      replace G := Box.mk (G.out.trans k); clear k
      have q3 : (E.toList == F.toList) = true := HE.out.same HF.out rfl
      go_wp2_with fail
      refine (czero _).mono ?_
      rintro e w51 ⟨I, HI, rfl, k⟩
      replace G := Box.mk (G.out.trans k); clear k
      go_wp2_with fail
      refine (ddzero _).mono ?_
      rintro e w52 ⟨J, HJ, rfl, k⟩
      replace G := Box.mk (G.out.trans k); clear k
      have q4 : (I.toList == J.toList) = true := HI.out.same HJ.out rfl
      go_wp2
      go_ret
      exact ⟨rfl, G.out⟩
theorem own : ownKnob Try.prog.godebug = none := by kernel_rfl
theorem laidOut : laidOutB Try.prog = true := by kernel_rfl
set_option maxRecDepth 100000 in
theorem lifted (os : Os) (started : os.Started) (H : Type) (enc : TypeId × Value → H) :
    ReturnsInHanded {} Try.checked os 3 .any (Rows.curvePointsSpec.pre6 enc Try.prog Try.f3 Rows.curvePointsRow.domain false) (Rows.curvePointsSpec.post enc Try.prog Try.f3 false true false false) := by
  refine returnsInHanded_of_change (C := Try.checked) own started (by kernel_rfl) Try.func3
    (ChangeSpec.witness6 (enc := enc) (C := Try.checked) false ⟨#[], #[.string ⟨#[]⟩, .string ⟨#[]⟩], []⟩ 8 (by kernel_rfl) (by kernel_rfl) (by kernel_rfl) (by kernel_rfl)) ?_
  intro W base args ds gs before hval0 hW hcnd _
  have hval : ∀ (j : Nat) t v, Try.f3.params[j]? = some t → args[j]? = some v → Value.okWide Try.prog W .any base t v := hval0
  have hW' := hW
  obtain ⟨p, q, hA0, hV, rfl, hfz, hnd⟩ := hW
  have hA : DataW.TrodAll enc Try.prog W 0 (fun _ => true) true Try.f3.params.toList args.toList ds p := hA0
  rw [Try.params3] at hA hval
  obtain ⟨v0, vs0, d0, ds0, p0, q0, hargs, rfl, rfl, h0, r0⟩ := trodAll_cons hA
  obtain ⟨v1, vs1, d1, ds1, p1, q1, rfl, rfl, rfl, h1, r1⟩ := trodAll_cons r0
  obtain ⟨rfl, rfl, rfl⟩ := trodAll_nil r1
  obtain rfl : args = #[v0, v1] := by cases args; simp_all
  obtain ⟨rfl, rfl⟩ := trodVars_none hV
  obtain ⟨s0, rfl, rfl, rfl, ws0⟩ := open_string Try.underlying9 (hval 0 9 v0 rfl rfl) h0
  obtain ⟨s1, rfl, rfl, rfl, ws1⟩ := open_string Try.underlying9 (hval 1 9 v1 rfl rfl) h1
  clear hA0 hval0
  refine (walk s0 ws0 s1 ws1 W).mono fun e W' ⟨he, bel⟩ => ?_
  subst he
  exact ⟨_, rfl, _, _, _, [], _, [], hW', trodAll_mk1 (shut_bool Try.underlying4 _), (trodAll_cons_mk (shut_string Try.underlying9 ws0) (trodAll_cons_mk (shut_string Try.underlying9 ws1) trodAll_mk0)), rfl, bel.frame _, fun h => by cases h⟩

theorem proved : Rows.CurvePointsSaid :=
  OpenClaim.holds_of_wide 3 Try.f3 rfl rfl rfl rfl rfl rfl rfl ⟨rfl, rfl, rfl, rfl, rfl⟩ rfl rfl rfl rfl rfl (by kernel_rfl) Try.func3 (by kernel_rfl)
    (of_decide_eq_true (by kernel_rfl)) (by unfold Func.isWrapper; first | (rw [if_pos (by decide +kernel)]; kernel_rfl) | (rw [if_neg (by decide +kernel)]; exact ⟨rfl, rfl⟩))
    (fun os started H enc _ => lifted os started H enc)
#print axioms proved
end Go.Proofs.Ytpgichfagodkpaa.curvePoints
