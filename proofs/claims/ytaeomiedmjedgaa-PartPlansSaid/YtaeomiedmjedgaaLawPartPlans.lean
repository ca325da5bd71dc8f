/- Whatever number comes in, the call of PartPlans returns true and leaves its argument as it was. No condition. -/
import Derived.Test.YtaeomiedmjedgaaPartG
import Derived.ProofKit
import Derived.OpenShut
import Derived.ShutString
import Derived.ChangeOld
namespace Go.Proofs.Ytaeomiedmjedgaa.partPlans
open Go Go.RowKit Go.ChangeShapes Go.WideShapes Go.ChangeAt
open Go.ChangeMaps (open_string shut_string)
set_option linter.unusedVariables false

/-- What is asked of the j-th region. -/
theorem reg_ok (n : Nat) (h1 : 32 ≤ n) (h2 : n ≤ 256) (j : Nat) (hj : j < 4) : 1 ≤ plL n j ∧ plL n j + plS n j ≤ n := by
  have l0 : plL n 0 = 2 := rfl
  have l1 : plL n 1 = (n - 2) / 3 := rfl
  have l2 : plL n 2 = (n - 2 - (n - 2) / 3) / 2 := rfl
  have l3 : plL n 3 = (n - 2 - (n - 2) / 3) / 2 := rfl
  have s0 : plS n 0 = 0 := rfl
  have s1 : plS n 1 = plS n 0 + plL n 0 := rfl
  have s2 : plS n 2 = plS n 1 + plL n 1 := rfl
  have s3 : plS n 3 = plS n 2 + plL n 2 := rfl
  match j, hj with
  | 0, _ => omega
  | 1, _ => omega
  | 2, _ => omega
  | 3, _ => omega
set_option maxRecDepth 100000 in
set_option maxHeartbeats 8000000 in
theorem walk (k : Int) (wk : (Lit.int .i64 k).wf = true) (w : World) :
    Calls Try.prog 3 #[.int .i64 k] w fun e w' => e = .returned (.bool true) ∧ Below w.heap.size w w' := by
  have bk := bounds_i64 wk
  clear wk
  by_cases h : k < 32 ∨ 256 < k
  · have P1 := Box.mk (fun w => plan_no k h w); have P2 := Box.mk (fun w => rplan_no k h w)
    clear h bk
    go_enter Try.func3, Try.ntmps3
    go_wp2_with fail
    refine (P1.out _).mono ?_
    rintro e w1 ⟨rfl, rfl⟩
    go_wp2_with fail
    refine (P2.out _).mono ?_
    rintro e w1 ⟨rfl, rfl⟩
    go_wp2_with fail
    refine (pfixed_any _).mono ?_
    rintro e w1 ⟨rfl, b1⟩
    have B1 := Box.mk b1; clear b1
    go_wp2_with fail
    go_loopw [7] (fun i wr => i = .int .i64 0 ∧ wr = w1) (fun _ _ => 0)
    case atStart => exact ⟨rfl, rfl⟩
    case round =>
      obtain ⟨rfl, rfl⟩ := hrel
      go_wp2_with fail
      go_ret
      exact ⟨rfl, B1.out⟩
  · obtain ⟨n, rfl⟩ : ∃ n : Nat, k = n := ⟨k.toNat, by omega⟩
    have h1 : 32 ≤ n := by omega
    have h2 : n ≤ 256 := by omega
    have P1 := Box.mk (fun w => plan_yes n h1 h2 w); have P2 := Box.mk (fun w => rplan_yes n h1 h2 w)
    have H1 := Box.mk h1; have H2 := Box.mk h2
    clear h bk h1 h2
    go_enter Try.func3, Try.ntmps3
    go_wp2_with fail
    refine (P1.out _).mono ?_
    rintro e w1 ⟨v1, rfl, f1, b1⟩
    have F1 := Box.mk f1; have B1 := Box.mk b1; clear f1 b1
    go_wp2_with fail
    refine (P2.out _).mono ?_
    rintro e w2 ⟨v2, rfl, f2, b2⟩
    have F1 := Box.mk (F1.out.below b2); have F2 := Box.mk f2; have B2 := Box.mk (B1.out.trans (b2.mono B1.out.size)); clear f2 b2 B1
    go_wp2_with fail
    refine (pfixed_any _).mono ?_
    rintro e w3 ⟨rfl, b3⟩
    have f1 := F1.out.below b3; have f2 := F2.out.below b3; have B3 := Box.mk (B2.out.trans (b3.mono B2.out.size)); clear b3 B2 F1 F2
    obtain ⟨g1, c1, rfl, hg1, hc1, q1⟩ := f1.at_
    obtain ⟨g2, c2, rfl, hg2, hc2, q2⟩ := f2.at_
    have Q1 := Box.mk q1; have Q2 := Box.mk q2; have HG1 := Box.mk hg1; have HG2 := Box.mk hg2
    clear f1 f2 hg1 hg2 hc1 hc2 q1 q2
    go_wp2_with fail
    obtain ⟨wz, hwz⟩ : ∃ wz : World, wz = w3 := ⟨_, rfl⟩
    rw [← hwz] at Q1 Q2 HG1 HG2
    go_loopw [7] (fun i wr => ∃ j : Nat, j ≤ 4 ∧ i = .int .i64 j ∧ Upd [] wz wr) (fun i _ => 4 - (intOf i).toNat)
    case atStart => exact ⟨0, by omega, rfl, by rw [hwz]; exact Upd.refl _ _⟩
    case round =>
      obtain ⟨j, hj, rfl, hu⟩ := hrel
      have HU := Box.mk hu
      by_cases hlt : j < 4
      · have hj4 : j = 0 ∨ j = 1 ∨ j = 2 ∨ j = 3 := by omega
        clear hu hlt hj
        rcases hj4 with rfl | rfl | rfl | rfl
        · have a1 := cellU HU.out HG1.out (by simp) (Q1.out 0 (by omega)).1; have a2 := cellU HU.out HG1.out (by simp) (Q1.out 0 (by omega)).2
          have d1 := cellU HU.out HG2.out (by simp) (Q2.out 0 (by omega)).1; have d2 := cellU HU.out HG2.out (by simp) (Q2.out 0 (by omega)).2
          have r := reg_ok n H1.out H2.out 0 (by omega)
          have hn := H2.out
          generalize plS n 0 = sj at a1 d1 r
          generalize plL n 0 = lj at a2 d2 r
          have f1 : decide ((sj : Int) < 0) = false := by rw [decide_eq_false_iff_not]; omega
          have f2 : decide ((lj : Int) < 1) = false := by rw [decide_eq_false_iff_not]; omega
          have fw : IntKind.i64.wrap ((n : Int) - (sj : Int)) = (n : Int) - (sj : Int) := by rw [IntKind.wrap_i64]; omega
          have f3 : decide ((n : Int) - (sj : Int) < (lj : Int)) = false := by rw [decide_eq_false_iff_not]; omega
          clear r hn
          go_upto_region 8 with (fail)
          refine wp_region_quiet_lit (by kernel_rfl) (by kernel_rfl) ?_
          simp only [List.append_eq, List.cons_append, List.nil_append]
          repeat (go_big_quiet_step (fail))
          refine wpQuiet_nil ?_
          intro _ hw'
          obtain ⟨nq, hw''⟩ := hw'
          subst hw''
          go_wp2_with fail
          exact ⟨⟨1, by omega, by go_num, HU.out.drewN _⟩, by simp [intOf]⟩
        · have a1 := cellU HU.out HG1.out (by simp) (Q1.out 1 (by omega)).1; have a2 := cellU HU.out HG1.out (by simp) (Q1.out 1 (by omega)).2
          have d1 := cellU HU.out HG2.out (by simp) (Q2.out 1 (by omega)).1; have d2 := cellU HU.out HG2.out (by simp) (Q2.out 1 (by omega)).2
          have r := reg_ok n H1.out H2.out 1 (by omega)
          have hn := H2.out
          have e1 := cellU HU.out HG1.out (by simp) (Q1.out 0 (by omega)).1; have e2 := cellU HU.out HG1.out (by simp) (Q1.out 0 (by omega)).2
          have es : plS n 1 = plS n 0 + plL n 0 := rfl
          generalize plS n 1 = sj at a1 d1 r es
          generalize plL n 1 = lj at a2 d2 r
          generalize plS n 0 = sp at e1 es
          generalize plL n 0 = lp at e2 es
          have f4 : IntKind.i64.wrap ((sp : Int) + (lp : Int)) = (sj : Int) := by rw [IntKind.wrap_i64]; omega
          have f5 : decide ((sj : Int) < (sj : Int)) = false := by simp
          clear es
          have f1 : decide ((sj : Int) < 0) = false := by rw [decide_eq_false_iff_not]; omega
          have f2 : decide ((lj : Int) < 1) = false := by rw [decide_eq_false_iff_not]; omega
          have fw : IntKind.i64.wrap ((n : Int) - (sj : Int)) = (n : Int) - (sj : Int) := by rw [IntKind.wrap_i64]; omega
          have f3 : decide ((n : Int) - (sj : Int) < (lj : Int)) = false := by rw [decide_eq_false_iff_not]; omega
          clear r hn
          go_upto_region 8 with (fail)
          refine wp_region_quiet_lit (by kernel_rfl) (by kernel_rfl) ?_
          simp only [List.append_eq, List.cons_append, List.nil_append]
          repeat (go_big_quiet_step (fail))
          refine wpQuiet_nil ?_
          intro _ hw'
          obtain ⟨nq, hw''⟩ := hw'
          subst hw''
          go_wp2_with fail
          exact ⟨⟨2, by omega, by go_num, HU.out.drewN _⟩, by simp [intOf]⟩
        · have a1 := cellU HU.out HG1.out (by simp) (Q1.out 2 (by omega)).1; have a2 := cellU HU.out HG1.out (by simp) (Q1.out 2 (by omega)).2
          have d1 := cellU HU.out HG2.out (by simp) (Q2.out 2 (by omega)).1; have d2 := cellU HU.out HG2.out (by simp) (Q2.out 2 (by omega)).2
          have r := reg_ok n H1.out H2.out 2 (by omega)
          have hn := H2.out
          have e1 := cellU HU.out HG1.out (by simp) (Q1.out 1 (by omega)).1; have e2 := cellU HU.out HG1.out (by simp) (Q1.out 1 (by omega)).2
          have es : plS n 2 = plS n 1 + plL n 1 := rfl
          generalize plS n 2 = sj at a1 d1 r es
          generalize plL n 2 = lj at a2 d2 r
          generalize plS n 1 = sp at e1 es
          generalize plL n 1 = lp at e2 es
          have f4 : IntKind.i64.wrap ((sp : Int) + (lp : Int)) = (sj : Int) := by rw [IntKind.wrap_i64]; omega
          have f5 : decide ((sj : Int) < (sj : Int)) = false := by simp
          clear es
          have f1 : decide ((sj : Int) < 0) = false := by rw [decide_eq_false_iff_not]; omega
          have f2 : decide ((lj : Int) < 1) = false := by rw [decide_eq_false_iff_not]; omega
          have fw : IntKind.i64.wrap ((n : Int) - (sj : Int)) = (n : Int) - (sj : Int) := by rw [IntKind.wrap_i64]; omega
          have f3 : decide ((n : Int) - (sj : Int) < (lj : Int)) = false := by rw [decide_eq_false_iff_not]; omega
          clear r hn
          go_upto_region 8 with (fail)
          refine wp_region_quiet_lit (by kernel_rfl) (by kernel_rfl) ?_
          simp only [List.append_eq, List.cons_append, List.nil_append]
          repeat (go_big_quiet_step (fail))
          refine wpQuiet_nil ?_
          intro _ hw'
          obtain ⟨nq, hw''⟩ := hw'
          subst hw''
          go_wp2_with fail
          exact ⟨⟨3, by omega, by go_num, HU.out.drewN _⟩, by simp [intOf]⟩
        · have a1 := cellU HU.out HG1.out (by simp) (Q1.out 3 (by omega)).1; have a2 := cellU HU.out HG1.out (by simp) (Q1.out 3 (by omega)).2
          have d1 := cellU HU.out HG2.out (by simp) (Q2.out 3 (by omega)).1; have d2 := cellU HU.out HG2.out (by simp) (Q2.out 3 (by omega)).2
          have r := reg_ok n H1.out H2.out 3 (by omega)
          have hn := H2.out
          have e1 := cellU HU.out HG1.out (by simp) (Q1.out 2 (by omega)).1; have e2 := cellU HU.out HG1.out (by simp) (Q1.out 2 (by omega)).2
          have es : plS n 3 = plS n 2 + plL n 2 := rfl
          generalize plS n 3 = sj at a1 d1 r es
          generalize plL n 3 = lj at a2 d2 r
          generalize plS n 2 = sp at e1 es
          generalize plL n 2 = lp at e2 es
          have f4 : IntKind.i64.wrap ((sp : Int) + (lp : Int)) = (sj : Int) := by rw [IntKind.wrap_i64]; omega
          have f5 : decide ((sj : Int) < (sj : Int)) = false := by simp
          clear es
          have f1 : decide ((sj : Int) < 0) = false := by rw [decide_eq_false_iff_not]; omega
          have f2 : decide ((lj : Int) < 1) = false := by rw [decide_eq_false_iff_not]; omega
          have fw : IntKind.i64.wrap ((n : Int) - (sj : Int)) = (n : Int) - (sj : Int) := by rw [IntKind.wrap_i64]; omega
          have f3 : decide ((n : Int) - (sj : Int) < (lj : Int)) = false := by rw [decide_eq_false_iff_not]; omega
          clear r hn
          go_upto_region 8 with (fail)
          refine wp_region_quiet_lit (by kernel_rfl) (by kernel_rfl) ?_
          simp only [List.append_eq, List.cons_append, List.nil_append]
          repeat (go_big_quiet_step (fail))
          refine wpQuiet_nil ?_
          intro _ hw'
          obtain ⟨nq, hw''⟩ := hw'
          subst hw''
          go_wp2_with fail
          exact ⟨⟨4, by omega, by go_num, HU.out.drewN _⟩, by simp [intOf]⟩
      · obtain rfl : j = 4 := by omega
        go_wp2_with fail
        go_ret
        exact ⟨rfl, Upd.below (hwz ▸ B3.out) HU.out (by simp) (hwz ▸ B3.out.size)⟩
theorem own : ownKnob Try.prog.godebug = none := by kernel_rfl
theorem laidOut : laidOutB Try.prog = true := by kernel_rfl
set_option maxRecDepth 100000 in
theorem lifted (os : Os) (started : os.Started) (H : Type) (enc : TypeId × Value → H) :
    ReturnsInHanded {} Try.checked os 3 .any (Rows.partPlansSpec.pre6 enc Try.prog Try.f3 Rows.partPlansRow.domain false) (Rows.partPlansSpec.post enc Try.prog Try.f3 false true false false) := by
  refine returnsInHanded_of_change (C := Try.checked) own started (by kernel_rfl) Try.func3
    (ChangeSpec.witness6 (enc := enc) (C := Try.checked) false ⟨#[], #[.int .i64 0], []⟩ 8 (by kernel_rfl) (by kernel_rfl) (by kernel_rfl) (by kernel_rfl)) ?_
  intro W base args ds gs before hval0 hW hcnd _
  have hval : ∀ (j : Nat) t v, Try.f3.params[j]? = some t → args[j]? = some v → Value.okWide Try.prog W .any base t v := hval0
  have hW' := hW
  obtain ⟨p, q, hA0, hV, rfl, hfz, hnd⟩ := hW
  have hA : DataW.TrodAll enc Try.prog W 0 (fun _ => true) true Try.f3.params.toList args.toList ds p := hA0
  rw [Try.params3] at hA hval
  obtain ⟨v0, vs0, d0, ds0, p0, q0, hargs, rfl, rfl, h0, r0⟩ := trodAll_cons hA
  obtain ⟨rfl, rfl, rfl⟩ := trodAll_nil r0
  obtain rfl : args = #[v0] := by cases args; simp_all
  obtain ⟨rfl, rfl⟩ := trodVars_none hV
  obtain ⟨s0, rfl, rfl, rfl, ws0⟩ := open_int Try.underlying3 (hval 0 3 v0 rfl rfl) h0
  clear hA0 hval0
  refine (walk s0 ws0 W).mono fun e W' ⟨he, bel⟩ => ?_
  subst he
  exact ⟨_, rfl, _, _, _, [], _, [], hW', trodAll_mk1 (shut_bool Try.underlying4 _), (trodAll_cons_mk (shut_int Try.underlying3 ws0) trodAll_mk0), rfl, bel.frame _, fun h => by cases h⟩

theorem proved : Rows.PartPlansSaid :=
  OpenClaim.holds_of_wide 3 Try.f3 rfl rfl rfl rfl rfl rfl rfl ⟨rfl, rfl, rfl, rfl, rfl⟩ rfl rfl rfl rfl rfl (by kernel_rfl) Try.func3 (by kernel_rfl)
    (of_decide_eq_true (by kernel_rfl)) (by unfold Func.isWrapper; first | (rw [if_pos (by decide +kernel)]; kernel_rfl) | (rw [if_neg (by decide +kernel)]; exact ⟨rfl, rfl⟩))
    (fun os started H enc _ => lifted os started H enc)
#print axioms proved
end Go.Proofs.Ytaeomiedmjedgaa.partPlans
