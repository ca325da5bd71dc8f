/- Whatever bytes come in, the call of ScalarReduces returns true and leaves its argument as it was. No condition. -/
import Derived.Test.YtilehlgnkfjcpaaScalarM
import Derived.ProofKit
import Derived.OpenShut
import Derived.ShutString
import Derived.ChangeOld
namespace Go.Proofs.Ytilehlgnkfjcpaa.scalarReduces
open Go Go.RowKit Go.ChangeShapes Go.WideShapes Go.ChangeAt
open Go.ChangeMaps (open_string shut_string)
set_option linter.unusedVariables false

set_option maxRecDepth 100000 in
set_option maxHeartbeats 1000000 in
theorem walk (s : ByteArray) (ws : s.size ≤ maxLen) (w : World) :
    Calls Try.prog 3 #[.string s] w fun e w' => e = .returned (.bool true) ∧ Below w.heap.size w w' := by
  clear ws
  go_enter Try.func3, Try.ntmps3
  go_wp2_with fail
  refine (reduce_any s _).mono ?_
  rintro e w1 ⟨rfl, h1⟩
  by_cases h : s.size ≤ 64
  all_goals
    first | rw [if_pos h] | rw [if_neg h]
    go_wp2_with fail
    refine (refReduce_any s _).mono ?_
    rintro e w2 ⟨rfl, k2⟩
    have h2 := bthen h1 k2; clear h1 k2
    first | rw [if_pos h] | rw [if_neg h]
    clear h
    go_wp2_with fail
    refine (fixed_any _).mono ?_
    rintro e w3 ⟨rfl, k3⟩
    have h3 := bthen h2 k3; clear h2 k3
    go_wp2_with fail
    refine (is_any s _).mono ?_
    rintro e w4 ⟨rfl, k4⟩
    have h4 := bthen h3 k4; clear h3 k4
    obtain ⟨B, hB⟩ : ∃ B, B = decide (s.size = 32 ∧ num s < ordL) := ⟨_, rfl⟩
    have HB := Box.mk hB; clear hB
    rw [← HB.out]
    go_wp2_with fail
    refine (refIs_any s _).mono ?_
    rintro e w5 ⟨rfl, k5⟩
    have h5 := bthen h4 k5; clear h4 k5
    rw [← HB.out]
    go_wp2
    go_ret
    exact ⟨rfl, h5⟩
theorem own : ownKnob Try.prog.godebug = none := by kernel_rfl
theorem laidOut : laidOutB Try.prog = true := by kernel_rfl
set_option maxRecDepth 100000 in
theorem lifted (os : Os) (started : os.Started) (H : Type) (enc : TypeId × Value → H) :
    ReturnsInHanded {} Try.checked os 3 .any (Rows.scalarReducesSpec.pre6 enc Try.prog Try.f3 Rows.scalarReducesRow.domain false) (Rows.scalarReducesSpec.post enc Try.prog Try.f3 false true false false) := by
  refine returnsInHanded_of_change (C := Try.checked) own started (by kernel_rfl) Try.func3
    (ChangeSpec.witness6 (enc := enc) (C := Try.checked) false ⟨#[], #[.string ⟨#[]⟩], []⟩ 8 (by kernel_rfl) (by kernel_rfl) (by kernel_rfl) (by kernel_rfl)) ?_
  intro W base args ds gs before hval0 hW hcnd _
  have hval : ∀ (j : Nat) t v, Try.f3.params[j]? = some t → args[j]? = some v → Value.okWide Try.prog W .any base t v := hval0
  have hW' := hW
  obtain ⟨p, q, hA0, hV, rfl, hfz, hnd⟩ := hW
  have hA : DataW.TrodAll enc Try.prog W 0 (fun _ => true) true Try.f3.params.toList args.toList ds p := hA0
  rw [Try.params3] at hA hval
  obtain ⟨v0, vs0, d0, ds0, p0, q0, hargs, rfl, rfl, h0, r0⟩ := trodAll_cons hA
  obtain ⟨rfl, rfl, rfl⟩ := trodAll_nil r0
  obtain rfl : args = #[v0] := by cases args; simp_all
  obtain ⟨rfl, rfl⟩ := trodVars_none hV
  obtain ⟨s0, rfl, rfl, rfl, ws0⟩ := open_string Try.underlying9 (hval 0 9 v0 rfl rfl) h0
  clear hA0 hval0
  refine (walk s0 ws0 W).mono fun e W' ⟨he, bel⟩ => ?_
  subst he
  exact ⟨_, rfl, _, _, _, [], _, [], hW', trodAll_mk1 (shut_bool Try.underlying4 _), (trodAll_cons_mk (shut_string Try.underlying9 ws0) trodAll_mk0), rfl, bel.frame _, fun h => by cases h⟩

theorem proved : Rows.ScalarReducesSaid :=
  OpenClaim.holds_of_wide 3 Try.f3 rfl rfl rfl rfl rfl rfl rfl ⟨rfl, rfl, rfl, rfl, rfl⟩ rfl rfl rfl rfl rfl (by kernel_rfl) Try.func3 (by kernel_rfl)
    (of_decide_eq_true (by kernel_rfl)) (by unfold Func.isWrapper; first | (rw [if_pos (by decide +kernel)]; kernel_rfl) | (rw [if_neg (by decide +kernel)]; exact ⟨rfl, rfl⟩))
    (fun os started H enc _ => lifted os started H enc)
#print axioms proved
end Go.Proofs.Ytilehlgnkfjcpaa.scalarReduces
