/- Whatever two strings come in, the call of FieldDoes returns true and leaves its arguments as they were. No condition. -/
import Derived.Test.YtelbgoalikkikaaFieldAE
import Derived.ProofKit
import Derived.OpenShut
import Derived.ShutString
import Derived.ChangeOld
namespace Go.Proofs.Ytelbgoalikkikaa.fieldDoes
open Go Go.RowKit Go.ChangeShapes Go.WideShapes Go.ChangeAt Fe
open Go.ChangeMaps (open_string shut_string)
set_option linter.unusedVariables false

set_option maxRecDepth 100000 in
set_option maxHeartbeats 2000000 in
theorem walk (a : ByteArray) (wa : a.size ≤ maxLen) (b : ByteArray) (wb : b.size ≤ maxLen) (w : World) :
    Calls Try.prog 3 #[.string a, .string b] w fun e w' => e = .returned (.bool true) ∧ Below w.heap.size w w' := by
  clear wa wb
  cases h : (isF a && isF b)
  ·
    have C0 := Box.mk (fun w => no_out (fadd_any a b w) (binR_no h)); have D0 := Box.mk (fun w => no_out (radd_any a b w) (binR_no h))
    have C1 := Box.mk (fun w => no_out (fsub_any a b w) (binR_no h)); have D1 := Box.mk (fun w => no_out (rsub_any a b w) (binR_no h))
    have C2 := Box.mk (fun w => no_out (fmul_any a b w) (binR_no h)); have D2 := Box.mk (fun w => no_out (rmul_any a b w) (binR_no h))
    clear h
    go_enter Try.func3, Try.ntmps3
    go_wp2_with fail
    refine (C0.out _).mono ?_
    rintro e w1 ⟨rfl, k⟩
    have G := Box.mk k; clear k
    go_wp2_with fail
    refine (D0.out _).mono ?_
    rintro e w2 ⟨rfl, k⟩
    replace G := Box.mk (G.out.trans k); clear k
    go_wp2_with fail
    refine (C1.out _).mono ?_
    rintro e w3 ⟨rfl, k⟩
    replace G := Box.mk (G.out.trans k); clear k
    go_wp2_with fail
    refine (D1.out _).mono ?_
    rintro e w4 ⟨rfl, k⟩
    replace G := Box.mk (G.out.trans k); clear k
    go_wp2_with fail
    refine (C2.out _).mono ?_
    rintro e w5 ⟨rfl, k⟩
    replace G := Box.mk (G.out.trans k); clear k
    go_wp2_with fail
    refine (D2.out _).mono ?_
    rintro e w6 ⟨rfl, k⟩
    replace G := Box.mk (G.out.trans k); clear k
    go_wp2_with fail
    refine (Fe.fixed_any _).mono ?_
    rintro e w7 ⟨rfl, k⟩
    replace G := Box.mk (G.out.trans k); clear k
    go_wp2
    go_ret
    exact ⟨rfl, G.out⟩
  ·
    have C0 := Box.mk (fun w => el_out (fadd_any a b w) (binR_yes h)); have D0 := Box.mk (fun w => el_out (radd_any a b w) (binR_yes h))
    have C1 := Box.mk (fun w => el_out (fsub_any a b w) (binR_yes h)); have D1 := Box.mk (fun w => el_out (rsub_any a b w) (binR_yes h))
    have C2 := Box.mk (fun w => el_out (fmul_any a b w) (binR_yes h)); have D2 := Box.mk (fun w => el_out (rmul_any a b w) (binR_yes h))
    clear h
    go_enter Try.func3, Try.ntmps3
    go_wp2_with fail
    refine (C0.out _).mono ?_
    rintro e w8 ⟨S0, HS0, rfl, k⟩
    have G := Box.mk k; clear k
    go_wp2_with fail
    refine (D0.out _).mono ?_
    rintro e w9 ⟨T0, HT0, rfl, k⟩
    replace G := Box.mk (G.out.trans k); clear k
    have q0 : (S0.toList == T0.toList) = true := HS0.out.same HT0.out rfl
    go_wp2_with fail
    refine (C1.out _).mono ?_
    rintro e w10 ⟨S1, HS1, rfl, k⟩
    replace G := Box.mk (G.out.trans k); clear k
    go_wp2_with fail
    refine (D1.out _).mono ?_
    rintro e w11 ⟨T1, HT1, rfl, k⟩
    replace G := Box.mk (G.out.trans k); clear k
    have q1 : (S1.toList == T1.toList) = true := HS1.out.same HT1.out rfl
    go_wp2_with fail
    refine (C2.out _).mono ?_
    rintro e w12 ⟨S2, HS2, rfl, k⟩
    replace G := Box.mk (G.out.trans k); clear k
    go_wp2_with fail
    refine (D2.out _).mono ?_
    rintro e w13 ⟨T2, HT2, rfl, k⟩
    replace G := Box.mk (G.out.trans k); clear k
    have q2 : (S2.toList == T2.toList) = true := HS2.out.same HT2.out rfl
    go_wp2_with fail
    refine (Fe.fixed_any _).mono ?_
    rintro e w14 ⟨rfl, k⟩
    replace G := Box.mk (G.out.trans k); clear k
    go_wp2
    go_ret
    exact ⟨rfl, G.out⟩
theorem own : ownKnob Try.prog.godebug = none := by kernel_rfl
theorem laidOut : laidOutB Try.prog = true := by kernel_rfl
set_option maxRecDepth 100000 in
theorem lifted (os : Os) (started : os.Started) (H : Type) (enc : TypeId × Value → H) :
    ReturnsInHanded {} Try.checked os 3 .any (Rows.fieldDoesSpec.pre6 enc Try.prog Try.f3 Rows.fieldDoesRow.domain false) (Rows.fieldDoesSpec.post enc Try.prog Try.f3 false true false false) := by
  refine returnsInHanded_of_change (C := Try.checked) own started (by kernel_rfl) Try.func3
    (ChangeSpec.witness6 (enc := enc) (C := Try.checked) false ⟨#[], #[.string ⟨#[]⟩, .string ⟨#[]⟩], []⟩ 8 (by kernel_rfl) (by kernel_rfl) (by kernel_rfl) (by kernel_rfl)) ?_
  intro W base args ds gs before hval0 hW hcnd _
  have hval : ∀ (j : Nat) t v, Try.f3.params[j]? = some t → args[j]? = some v → Value.okWide Try.prog W .any base t v := hval0
  have hW' := hW
  obtain ⟨p, q, hA0, hV, rfl, hfz, hnd⟩ := hW
  have hA : DataW.TrodAll enc Try.prog W 0 (fun _ => true) true Try.f3.params.toList args.toList ds p := hA0
  rw [Try.params3] at hA hval
  obtain ⟨v0, vs0, d0, ds0, p0, q0, hargs, rfl, rfl, h0, r0⟩ := trodAll_cons hA
  obtain ⟨v1, vs1, d1, ds1, p1, q1, rfl, rfl, rfl, h1, r1⟩ := trodAll_cons r0
  obtain ⟨rfl, rfl, rfl⟩ := trodAll_nil r1
  obtain rfl : args = #[v0, v1] := by cases args; simp_all
  obtain ⟨rfl, rfl⟩ := trodVars_none hV
  obtain ⟨s0, rfl, rfl, rfl, ws0⟩ := open_string Try.underlying9 (hval 0 9 v0 rfl rfl) h0
  obtain ⟨s1, rfl, rfl, rfl, ws1⟩ := open_string Try.underlying9 (hval 1 9 v1 rfl rfl) h1
  clear hA0 hval0
  refine (walk s0 ws0 s1 ws1 W).mono fun e W' ⟨he, bel⟩ => ?_
  subst he
  exact ⟨_, rfl, _, _, _, [], _, [], hW', trodAll_mk1 (shut_bool Try.underlying4 _), (trodAll_cons_mk (shut_string Try.underlying9 ws0) (trodAll_cons_mk (shut_string Try.underlying9 ws1) trodAll_mk0)), rfl, bel.frame _, fun h => by cases h⟩

theorem proved : Rows.FieldDoesSaid :=
  OpenClaim.holds_of_wide 3 Try.f3 rfl rfl rfl rfl rfl rfl rfl ⟨rfl, rfl, rfl, rfl, rfl⟩ rfl rfl rfl rfl rfl (by kernel_rfl) Try.func3 (by kernel_rfl)
    (of_decide_eq_true (by kernel_rfl)) (by unfold Func.isWrapper; first | (rw [if_pos (by decide +kernel)]; kernel_rfl) | (rw [if_neg (by decide +kernel)]; exact ⟨rfl, rfl⟩))
    (fun os started H enc _ => lifted os started H enc)
#print axioms proved
end Go.Proofs.Ytelbgoalikkikaa.fieldDoes
