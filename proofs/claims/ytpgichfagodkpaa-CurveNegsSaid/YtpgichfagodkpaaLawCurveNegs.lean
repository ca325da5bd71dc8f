/- Whatever two strings come in, the call of CurveNegs returns true and leaves its arguments as they were. No condition. -/
import Derived.Test.YtpgichfagodkpaaCurveH
import Derived.ProofKit
import Derived.OpenShut
import Derived.ShutString
import Derived.ChangeOld
namespace Go.Proofs.Ytpgichfagodkpaa.curveNegs
open Go Go.RowKit Go.ChangeShapes Go.WideShapes Go.ChangeAt Fe
open Go.ChangeMaps (open_string shut_string)
set_option linter.unusedVariables false

set_option maxRecDepth 100000 in
set_option maxHeartbeats 4000000 in
theorem walk (p : ByteArray) (wp : p.size ≤ maxLen) (q : ByteArray) (wq : q.size ≤ maxLen) (w : World) :
    Calls Try.prog 7 #[.string p, .string q] w fun e w' => e = .returned (.bool true) ∧ Below w.heap.size w w' := by
  clear wp wq
  rcases pt_or p with ⟨Pp, h⟩ | h
  ·
    have Hp := Box.mk h; clear h
    rcases pt_or q with ⟨Pq, h⟩ | h
    ·
      have Hq := Box.mk h; clear h
      go_enter Try.func7, Try.ntmps7
      go_wp2_with fail
      refine (cis Hp.out _).mono ?_
      rintro e w1 ⟨rfl, k⟩
      have G := Box.mk k; clear k
      go_wp2_with fail
      refine (cis Hq.out _).mono ?_
      rintro e w2 ⟨rfl, k⟩
      replace G := Box.mk (G.out.trans k); clear k
      go_wp2_with fail
      refine (cadd Hp.out Hq.out _).mono ?_
      rintro e w3 ⟨S, HS, rfl, k⟩
      replace G := Box.mk (G.out.trans k); clear k
      go_wp2_with fail
      refine (cneg HS.out _).mono ?_
      rintro e w4 ⟨N, HN, rfl, k⟩
      replace G := Box.mk (G.out.trans k); clear k
      go_wp2_with fail
      refine (cneg Hp.out _).mono ?_
      rintro e w5 ⟨A, HA, rfl, k⟩
      replace G := Box.mk (G.out.trans k); clear k
      go_wp2_with fail
      refine (cneg Hq.out _).mono ?_
      rintro e w6 ⟨B, HB, rfl, k⟩
      replace G := Box.mk (G.out.trans k); clear k
      go_wp2_with fail
      refine (cadd HA.out HB.out _).mono ?_
      rintro e w7 ⟨T, HT, rfl, k⟩
      replace G := Box.mk (G.out.trans k); clear k
      go_wp2_with fail
      refine (cneg HA.out _).mono ?_
      rintro e w8 ⟨K, HK, rfl, k⟩
      replace G := Box.mk (G.out.trans k); clear k
      have q1 : (N.toList == T.toList) = true := HN.out.same HT.out (CP.neg_sum _ _)
      have q2 : (K.toList == p.toList) = true := HK.out.same Hp.out (CP.neg_neg _)
      go_wp2_with fail
      refine (Fe.lfixed_any _).mono ?_
      rintro e w9 ⟨rfl, k⟩
      replace G := Box.mk (G.out.trans k); clear k
      go_wp2
      go_ret
      exact ⟨rfl, G.out⟩
    ·
      have HN := Box.mk h; clear h
      go_enter Try.func7, Try.ntmps7
      go_wp2_with fail
      refine (cis Hp.out _).mono ?_
      rintro e w10 ⟨rfl, k⟩
      have G := Box.mk k; clear k
      go_wp2_with fail
      refine (cis_no HN.out _).mono ?_
      rintro e w11 ⟨rfl, k⟩
      replace G := Box.mk (G.out.trans k); clear k
      go_wp2_with fail
      refine (Fe.lfixed_any _).mono ?_
      rintro e w12 ⟨rfl, k⟩
      replace G := Box.mk (G.out.trans k); clear k
      go_wp2
      go_ret
      exact ⟨rfl, G.out⟩
  ·
    have HN := Box.mk h; clear h
    go_enter Try.func7, Try.ntmps7
    go_wp2_with fail
    refine (cis_no HN.out _).mono ?_
    rintro e w13 ⟨rfl, k⟩
    have G := Box.mk k; clear k
    go_wp2_with fail
    refine (Fe.lfixed_any _).mono ?_
    rintro e w14 ⟨rfl, k⟩
    replace G := Box.mk (G.out.trans k); clear k
    go_wp2
    go_ret
    exact ⟨rfl, G.out⟩
theorem own : ownKnob Try.prog.godebug = none := by kernel_rfl
theorem laidOut : laidOutB Try.prog = true := by kernel_rfl
set_option maxRecDepth 100000 in
theorem lifted (os : Os) (started : os.Started) (H : Type) (enc : TypeId × Value → H) :
    ReturnsInHanded {} Try.checked os 7 .any (Rows.curveNegsSpec.pre6 enc Try.prog Try.f7 Rows.curveNegsRow.domain false) (Rows.curveNegsSpec.post enc Try.prog Try.f7 false true false false) := by
  refine returnsInHanded_of_change (C := Try.checked) own started (by kernel_rfl) Try.func7
    (ChangeSpec.witness6 (enc := enc) (C := Try.checked) false ⟨#[], #[.string ⟨#[]⟩, .string ⟨#[]⟩], []⟩ 8 (by kernel_rfl) (by kernel_rfl) (by kernel_rfl) (by kernel_rfl)) ?_
  intro W base args ds gs before hval0 hW hcnd _
  have hval : ∀ (j : Nat) t v, Try.f7.params[j]? = some t → args[j]? = some v → Value.okWide Try.prog W .any base t v := hval0
  have hW' := hW
  obtain ⟨p, q, hA0, hV, rfl, hfz, hnd⟩ := hW
  have hA : DataW.TrodAll enc Try.prog W 0 (fun _ => true) true Try.f7.params.toList args.toList ds p := hA0
  rw [Try.params7] at hA hval
  obtain ⟨v0, vs0, d0, ds0, p0, q0, hargs, rfl, rfl, h0, r0⟩ := trodAll_cons hA
  obtain ⟨v1, vs1, d1, ds1, p1, q1, rfl, rfl, rfl, h1, r1⟩ := trodAll_cons r0
  obtain ⟨rfl, rfl, rfl⟩ := trodAll_nil r1
  obtain rfl : args = #[v0, v1] := by cases args; simp_all
  obtain ⟨rfl, rfl⟩ := trodVars_none hV
  obtain ⟨s0, rfl, rfl, rfl, ws0⟩ := open_string Try.underlying9 (hval 0 9 v0 rfl rfl) h0
  obtain ⟨s1, rfl, rfl, rfl, ws1⟩ := open_string Try.underlying9 (hval 1 9 v1 rfl rfl) h1
  clear hA0 hval0
  refine (walk s0 ws0 s1 ws1 W).mono fun e W' ⟨he, bel⟩ => ?_
  subst he
  exact ⟨_, rfl, _, _, _, [], _, [], hW', trodAll_mk1 (shut_bool Try.underlying4 _), (trodAll_cons_mk (shut_string Try.underlying9 ws0) (trodAll_cons_mk (shut_string Try.underlying9 ws1) trodAll_mk0)), rfl, bel.frame _, fun h => by cases h⟩

theorem proved : Rows.CurveNegsSaid :=
  OpenClaim.holds_of_wide 7 Try.f7 rfl rfl rfl rfl rfl rfl rfl ⟨rfl, rfl, rfl, rfl, rfl⟩ rfl rfl rfl rfl rfl (by kernel_rfl) Try.func7 (by kernel_rfl)
    (of_decide_eq_true (by kernel_rfl)) (by unfold Func.isWrapper; first | (rw [if_pos (by decide +kernel)]; kernel_rfl) | (rw [if_neg (by decide +kernel)]; exact ⟨rfl, rfl⟩))
    (fun os started H enc _ => lifted os started H enc)
#print axioms proved
end Go.Proofs.Ytpgichfagodkpaa.curveNegs
