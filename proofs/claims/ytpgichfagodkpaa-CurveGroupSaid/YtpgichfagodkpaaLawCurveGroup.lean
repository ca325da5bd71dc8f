/- Whatever three strings come in, the call of CurveGroup returns true and leaves its arguments as they were. No condition. -/
import Derived.Test.YtpgichfagodkpaaCurveH
import Derived.ProofKit
import Derived.OpenShut
import Derived.ShutString
import Derived.ChangeOld
namespace Go.Proofs.Ytpgichfagodkpaa.curveGroup
open Go Go.RowKit Go.ChangeShapes Go.WideShapes Go.ChangeAt Fe
open Go.ChangeMaps (open_string shut_string)
set_option linter.unusedVariables false

set_option maxRecDepth 100000 in
set_option maxHeartbeats 4000000 in
theorem walk (p : ByteArray) (wp : p.size ≤ maxLen) (q : ByteArray) (wq : q.size ≤ maxLen) (r : ByteArray) (wr : r.size ≤ maxLen) (w : World) :
    Calls Try.prog 4 #[.string p, .string q, .string r] w fun e w' => e = .returned (.bool true) ∧ Below w.heap.size w w' := by
  clear wp wq wr
  rcases pt_or p with ⟨Pp, h⟩ | h
  ·
    have Hp := Box.mk h; clear h
    rcases pt_or q with ⟨Pq, h⟩ | h
    ·
      have Hq := Box.mk h; clear h
      rcases pt_or r with ⟨Pr, h⟩ | h
      ·
        have Hr := Box.mk h; clear h
        go_enter Try.func4, Try.ntmps4
        go_wp2_with fail
        refine (Fe.lfixed_any _).mono ?_
        rintro e w1 ⟨rfl, k⟩
        have G := Box.mk k; clear k
        go_wp2_with fail
        refine (cis Hp.out _).mono ?_
        rintro e w2 ⟨rfl, k⟩
        replace G := Box.mk (G.out.trans k); clear k
        go_wp2_with fail
        refine (cis Hq.out _).mono ?_
        rintro e w3 ⟨rfl, k⟩
        replace G := Box.mk (G.out.trans k); clear k
        go_wp2_with fail
        refine (cis Hr.out _).mono ?_
        rintro e w4 ⟨rfl, k⟩
        replace G := Box.mk (G.out.trans k); clear k
        go_wp2_with fail
        refine (cadd Hp.out Hq.out _).mono ?_
        rintro e w5 ⟨PQ, HPQ, rfl, k⟩
        replace G := Box.mk (G.out.trans k); clear k
        go_wp2_with fail
        refine (cadd Hq.out Hp.out _).mono ?_
        rintro e w6 ⟨QP, HQP, rfl, k⟩
        replace G := Box.mk (G.out.trans k); clear k
        go_wp2_with fail
        refine (cadd Hq.out Hr.out _).mono ?_
        rintro e w7 ⟨QR, HQR, rfl, k⟩
        replace G := Box.mk (G.out.trans k); clear k
        go_wp2_with fail
        refine (cadd HPQ.out Hr.out _).mono ?_
        rintro e w8 ⟨X, HX, rfl, k⟩
        replace G := Box.mk (G.out.trans k); clear k
        go_wp2_with fail
        refine (cadd Hp.out HQR.out _).mono ?_
        rintro e w9 ⟨Y, HY, rfl, k⟩
        replace G := Box.mk (G.out.trans k); clear k
        go_wp2_with fail
        refine (czero _).mono ?_
        rintro e w10 ⟨Z0, HZ0, rfl, k⟩
        replace G := Box.mk (G.out.trans k); clear k
        go_wp2_with fail
        refine (cadd Hp.out HZ0.out _).mono ?_
        rintro e w11 ⟨Z, HZ, rfl, k⟩
        replace G := Box.mk (G.out.trans k); clear k
        go_wp2_with fail
        refine (cneg Hp.out _).mono ?_
        rintro e w12 ⟨N, HN, rfl, k⟩
        replace G := Box.mk (G.out.trans k); clear k
        go_wp2_with fail
        refine (cadd Hp.out HN.out _).mono ?_
        rintro e w13 ⟨O, HO, rfl, k⟩
        replace G := Box.mk (G.out.trans k); clear k
        have q1 : (PQ.toList == QP.toList) = true := HPQ.out.same HQP.out (CP.add_comm _ _)
        have q2 : (X.toList == Y.toList) = true := HX.out.same HY.out (CP.add_assoc _ _ _)
        have q3 : (Z.toList == p.toList) = true := HZ.out.same Hp.out (CP.add_zero _)
        go_wp2_with fail
        refine (czero _).mono ?_
        rintro e w14 ⟨Z1, HZ1, rfl, k⟩
        replace G := Box.mk (G.out.trans k); clear k
        have q4 : (O.toList == Z1.toList) = true := HO.out.same HZ1.out (CP.add_neg _)
        go_wp2_with fail
        refine (cis HPQ.out _).mono ?_
        rintro e w15 ⟨rfl, k⟩
        replace G := Box.mk (G.out.trans k); clear k
        go_wp2_with fail
        refine (cis HN.out _).mono ?_
        rintro e w16 ⟨rfl, k⟩
        replace G := Box.mk (G.out.trans k); clear k
        go_wp2
        go_ret
        exact ⟨rfl, G.out⟩
      ·
        have HN := Box.mk h; clear h
        go_enter Try.func4, Try.ntmps4
        go_wp2_with fail
        refine (Fe.lfixed_any _).mono ?_
        rintro e w17 ⟨rfl, k⟩
        have G := Box.mk k; clear k
        go_wp2_with fail
        refine (cis Hp.out _).mono ?_
        rintro e w18 ⟨rfl, k⟩
        replace G := Box.mk (G.out.trans k); clear k
        go_wp2_with fail
        refine (cis Hq.out _).mono ?_
        rintro e w19 ⟨rfl, k⟩
        replace G := Box.mk (G.out.trans k); clear k
        go_wp2_with fail
        refine (cis_no HN.out _).mono ?_
        rintro e w20 ⟨rfl, k⟩
        replace G := Box.mk (G.out.trans k); clear k
        go_wp2_with fail
        refine (Fe.lfixed_any _).mono ?_
        rintro e w21 ⟨rfl, k⟩
        replace G := Box.mk (G.out.trans k); clear k
        go_wp2
        go_ret
        exact ⟨rfl, G.out⟩
    ·
      have HN := Box.mk h; clear h
      go_enter Try.func4, Try.ntmps4
      go_wp2_with fail
      refine (Fe.lfixed_any _).mono ?_
      rintro e w22 ⟨rfl, k⟩
      have G := Box.mk k; clear k
      go_wp2_with fail
      refine (cis Hp.out _).mono ?_
      rintro e w23 ⟨rfl, k⟩
      replace G := Box.mk (G.out.trans k); clear k
      go_wp2_with fail
      refine (cis_no HN.out _).mono ?_
      rintro e w24 ⟨rfl, k⟩
      replace G := Box.mk (G.out.trans k); clear k
      go_wp2_with fail
      refine (Fe.lfixed_any _).mono ?_
      rintro e w25 ⟨rfl, k⟩
      replace G := Box.mk (G.out.trans k); clear k
      go_wp2
      go_ret
      exact ⟨rfl, G.out⟩
  ·
    have HN := Box.mk h; clear h
    go_enter Try.func4, Try.ntmps4
    go_wp2_with fail
    refine (Fe.lfixed_any _).mono ?_
    rintro e w26 ⟨rfl, k⟩
    have G := Box.mk k; clear k
    go_wp2_with fail
    refine (cis_no HN.out _).mono ?_
    rintro e w27 ⟨rfl, k⟩
    replace G := Box.mk (G.out.trans k); clear k
    go_wp2_with fail
    refine (Fe.lfixed_any _).mono ?_
    rintro e w28 ⟨rfl, k⟩
    replace G := Box.mk (G.out.trans k); clear k
    go_wp2
    go_ret
    exact ⟨rfl, G.out⟩
theorem own : ownKnob Try.prog.godebug = none := by kernel_rfl
theorem laidOut : laidOutB Try.prog = true := by kernel_rfl
set_option maxRecDepth 100000 in
theorem lifted (os : Os) (started : os.Started) (H : Type) (enc : TypeId × Value → H) :
    ReturnsInHanded {} Try.checked os 4 .any (Rows.curveGroupSpec.pre6 enc Try.prog Try.f4 Rows.curveGroupRow.domain false) (Rows.curveGroupSpec.post enc Try.prog Try.f4 false true false false) := by
  refine returnsInHanded_of_change (C := Try.checked) own started (by kernel_rfl) Try.func4
    (ChangeSpec.witness6 (enc := enc) (C := Try.checked) false ⟨#[], #[.string ⟨#[]⟩, .string ⟨#[]⟩, .string ⟨#[]⟩], []⟩ 8 (by kernel_rfl) (by kernel_rfl) (by kernel_rfl) (by kernel_rfl)) ?_
  intro W base args ds gs before hval0 hW hcnd _
  have hval : ∀ (j : Nat) t v, Try.f4.params[j]? = some t → args[j]? = some v → Value.okWide Try.prog W .any base t v := hval0
  have hW' := hW
  obtain ⟨p, q, hA0, hV, rfl, hfz, hnd⟩ := hW
  have hA : DataW.TrodAll enc Try.prog W 0 (fun _ => true) true Try.f4.params.toList args.toList ds p := hA0
  rw [Try.params4] at hA hval
  obtain ⟨v0, vs0, d0, ds0, p0, q0, hargs, rfl, rfl, h0, r0⟩ := trodAll_cons hA
  obtain ⟨v1, vs1, d1, ds1, p1, q1, rfl, rfl, rfl, h1, r1⟩ := trodAll_cons r0
  obtain ⟨v2, vs2, d2, ds2, p2, q2, rfl, rfl, rfl, h2, r2⟩ := trodAll_cons r1
  obtain ⟨rfl, rfl, rfl⟩ := trodAll_nil r2
  obtain rfl : args = #[v0, v1, v2] := by cases args; simp_all
  obtain ⟨rfl, rfl⟩ := trodVars_none hV
  obtain ⟨s0, rfl, rfl, rfl, ws0⟩ := open_string Try.underlying9 (hval 0 9 v0 rfl rfl) h0
  obtain ⟨s1, rfl, rfl, rfl, ws1⟩ := open_string Try.underlying9 (hval 1 9 v1 rfl rfl) h1
  obtain ⟨s2, rfl, rfl, rfl, ws2⟩ := open_string Try.underlying9 (hval 2 9 v2 rfl rfl) h2
  clear hA0 hval0
  refine (walk s0 ws0 s1 ws1 s2 ws2 W).mono fun e W' ⟨he, bel⟩ => ?_
  subst he
  exact ⟨_, rfl, _, _, _, [], _, [], hW', trodAll_mk1 (shut_bool Try.underlying4 _), (trodAll_cons_mk (shut_string Try.underlying9 ws0) (trodAll_cons_mk (shut_string Try.underlying9 ws1) (trodAll_cons_mk (shut_string Try.underlying9 ws2) trodAll_mk0))), rfl, bel.frame _, fun h => by cases h⟩

theorem proved : Rows.CurveGroupSaid :=
  OpenClaim.holds_of_wide 4 Try.f4 rfl rfl rfl rfl rfl rfl rfl ⟨rfl, rfl, rfl, rfl, rfl⟩ rfl rfl rfl rfl rfl (by kernel_rfl) Try.func4 (by kernel_rfl)
    (of_decide_eq_true (by kernel_rfl)) (by unfold Func.isWrapper; first | (rw [if_pos (by decide +kernel)]; kernel_rfl) | (rw [if_neg (by decide +kernel)]; exact ⟨rfl, rfl⟩))
    (fun os started H enc _ => lifted os started H enc)
#print axioms proved
end Go.Proofs.Ytpgichfagodkpaa.curveGroup
