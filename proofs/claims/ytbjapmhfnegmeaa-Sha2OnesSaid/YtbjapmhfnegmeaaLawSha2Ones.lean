/- Whatever kind and whatever string come in, the call of Sha2Ones returns true and leaves its arguments as they were. No condition. -/
import Derived.Test.YtbjapmhfnegmeaaShaO
import Derived.Test.YtbjapmhfnegmeaaBigL
import Derived.Deep.DeepCutAuto
import Derived.ProofKit
import Derived.OpenShut
import Derived.ShutString
import Derived.ChangeOld
namespace Go.Proofs.Ytbjapmhfnegmeaa.sha2Ones
open Go Go.RowKit Go.ChangeShapes Go.WideShapes Go.ChangeAt Sha
open Go.ChangeMaps (open_string shut_string)
set_option linter.unusedVariables false

set_option maxRecDepth 100000 in
set_option maxHeartbeats 2000000 in
theorem walk (k : Int) (wk : (Lit.int .i64 k).wf = true) (a : ByteArray) (wa : a.size ≤ maxLen) (w : World) :
    Calls Try.prog 3 #[.int .i64 k, .string a] w fun e w' => e = .returned (.bool true) ∧ Below w.heap.size w w' := by
  clear wa wk
  go_enter Try.func3, Try.ntmps3
  go_upto_if 11 with (fail)
  go_cut [1] (fun v wx => ∃ s : ByteArray, v = .string s ∧ s.size ≤ 2000 ∧ w = wx)
  case first =>
    by_cases h : 2000 < a.size
    · have hI : (2000 : Int) < (a.size : Int) := by omega
      go_wp2_with fail
      go_meet
      exact ⟨_, rfl, by simp; try omega, rfl⟩
    · have hI : ¬ (2000 : Int) < (a.size : Int) := by omega
      go_wp2_with fail
      go_meet
      exact ⟨_, rfl, by omega, rfl⟩
  case rest =>
    obtain ⟨s, rfl, hs, rfl⟩ := hcut
    by_cases hk : Kind k
    · have O1 := Box.mk (fun w => oneB_any k hk s (by omega) w)
      have O2 := Box.mk (fun w => Big.doneB_any k hk s (by omega) w)
      clear hk
      go_wp2_with fail
      refine (O1.out _).mono ?_
      rintro e w1 ⟨rfl, b1⟩
      have B1 := Box.mk b1; clear b1
      go_wp2_with fail
      refine (O2.out _).mono ?_
      rintro e w2 ⟨rfl, b2⟩
      have B2 := Box.mk (bth B1.out b2); clear b2 B1
      go_wp2_with fail
      refine (fixed_any _).mono ?_
      rintro e w3 ⟨rfl, b3⟩
      have B3 := Box.mk (bth B2.out b3); clear b3 B2
      generalize sumS k s.data.toList = S
      have q1 : (S.toList == S.toList) = true := by simp
      go_wp2
      go_ret
      exact ⟨rfl, B3.out⟩
    · have O1 := Box.mk (fun w => oneB_no k hk s w)
      have O2 := Box.mk (fun w => Big.doneB_no k hk s w)
      clear hk
      go_wp2_with fail
      refine (O1.out _).mono ?_
      rintro e w1 ⟨rfl, rfl⟩
      go_wp2_with fail
      refine (O2.out _).mono ?_
      rintro e w2 ⟨rfl, rfl⟩
      go_wp2_with fail
      refine (fixed_any _).mono ?_
      rintro e w3 ⟨rfl, b3⟩
      go_wp2
      go_ret
      exact ⟨rfl, b3⟩
theorem own : ownKnob Try.prog.godebug = none := by kernel_rfl
theorem laidOut : laidOutB Try.prog = true := by kernel_rfl
set_option maxRecDepth 100000 in
theorem lifted (os : Os) (started : os.Started) (H : Type) (enc : TypeId × Value → H) :
    ReturnsInHanded {} Try.checked os 3 .any (Rows.sha2OnesSpec.pre6 enc Try.prog Try.f3 Rows.sha2OnesRow.domain false) (Rows.sha2OnesSpec.post enc Try.prog Try.f3 false true false false) := by
  refine returnsInHanded_of_change (C := Try.checked) own started (by kernel_rfl) Try.func3
    (ChangeSpec.witness6 (enc := enc) (C := Try.checked) false ⟨#[], #[.int .i64 0, .string ⟨#[]⟩], []⟩ 8 (by kernel_rfl) (by kernel_rfl) (by kernel_rfl) (by kernel_rfl)) ?_
  intro W base args ds gs before hval0 hW hcnd _
  have hval : ∀ (j : Nat) t v, Try.f3.params[j]? = some t → args[j]? = some v → Value.okWide Try.prog W .any base t v := hval0
  have hW' := hW
  obtain ⟨p, q, hA0, hV, rfl, hfz, hnd⟩ := hW
  have hA : DataW.TrodAll enc Try.prog W 0 (fun _ => true) true Try.f3.params.toList args.toList ds p := hA0
  rw [Try.params3] at hA hval
  obtain ⟨v0, vs0, d0, ds0, p0, q0, hargs, rfl, rfl, h0, r0⟩ := trodAll_cons hA
  obtain ⟨v1, vs1, d1, ds1, p1, q1, rfl, rfl, rfl, h1, r1⟩ := trodAll_cons r0
  obtain ⟨rfl, rfl, rfl⟩ := trodAll_nil r1
  obtain rfl : args = #[v0, v1] := by cases args; simp_all
  obtain ⟨rfl, rfl⟩ := trodVars_none hV
  obtain ⟨s0, rfl, rfl, rfl, ws0⟩ := open_int Try.underlying3 (hval 0 3 v0 rfl rfl) h0
  obtain ⟨s1, rfl, rfl, rfl, ws1⟩ := open_string Try.underlying9 (hval 1 9 v1 rfl rfl) h1
  clear hA0 hval0
  refine (walk s0 ws0 s1 ws1 W).mono fun e W' ⟨he, bel⟩ => ?_
  subst he
  exact ⟨_, rfl, _, _, _, [], _, [], hW', trodAll_mk1 (shut_bool Try.underlying4 _), (trodAll_cons_mk (shut_int Try.underlying3 ws0) (trodAll_cons_mk (shut_string Try.underlying9 ws1) trodAll_mk0)), rfl, bel.frame _, fun h => by cases h⟩

theorem proved : Rows.Sha2OnesSaid :=
  OpenClaim.holds_of_wide 3 Try.f3 rfl rfl rfl rfl rfl rfl rfl ⟨rfl, rfl, rfl, rfl, rfl⟩ rfl rfl rfl rfl rfl (by kernel_rfl) Try.func3 (by kernel_rfl)
    (of_decide_eq_true (by kernel_rfl)) (by unfold Func.isWrapper; first | (rw [if_pos (by decide +kernel)]; kernel_rfl) | (rw [if_neg (by decide +kernel)]; exact ⟨rfl, rfl⟩))
    (fun os started H enc _ => lifted os started H enc)
#print axioms proved
end Go.Proofs.Ytbjapmhfnegmeaa.sha2Ones
