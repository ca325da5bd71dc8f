/- Whatever string comes in, the call of FieldReduces returns true and leaves its argument as it was. No condition. -/
import Derived.Test.YtelbgoalikkikaaFieldAE
import Derived.ProofKit
import Derived.OpenShut
import Derived.ShutString
import Derived.ChangeOld
namespace Go.Proofs.Ytelbgoalikkikaa.fieldReduces
open Go Go.RowKit Go.ChangeShapes Go.WideShapes Go.ChangeAt Fe
open Go.ChangeMaps (open_string shut_string)
set_option linter.unusedVariables false

set_option maxRecDepth 100000 in
set_option maxHeartbeats 2000000 in
theorem walk (a : ByteArray) (wa : a.size ≤ maxLen) (w : World) :
    Calls Try.prog 9 #[.string a] w fun e w' => e = .returned (.bool true) ∧ Below w.heap.size w w' := by
  clear wa
  have C0 := Box.mk (fun w => reduce_any a w); have D0 := Box.mk (fun w => rreduce_any a w)
  by_cases h : a.size = 32
  ·
    have hr : redR a = okS (sbytes (Go.Proofs.Ytelbgoalikkikaa.num a % fp)) := if_pos h
    have C0 := Box.mk (fun w => el_out (reduce_any a w) hr); have D0 := Box.mk (fun w => el_out (rreduce_any a w) hr)
    clear h hr
    cases hi : isF a
    ·
      have HI := Box.mk hi; clear hi
      go_enter Try.func9, Try.ntmps9
      go_wp2_with fail
      refine (C0.out _).mono ?_
      rintro e w1 ⟨S0, HS0, rfl, k⟩
      have G := Box.mk k; clear k
      go_wp2_with fail
      refine (D0.out _).mono ?_
      rintro e w2 ⟨T0, HT0, rfl, k⟩
      replace G := Box.mk (G.out.trans k); clear k
      have q0 : (S0.toList == T0.toList) = true := HS0.out.same HT0.out rfl
      go_wp2_with fail
      refine (Fe.fixed_any _).mono ?_
      rintro e w3 ⟨rfl, k⟩
      replace G := Box.mk (G.out.trans k); clear k
      go_wp2_with fail
      refine (Fe.is_at HI.out _).mono ?_
      rintro e w4 ⟨rfl, k⟩
      replace G := Box.mk (G.out.trans k); clear k
      go_wp2_with fail
      refine (ris_at HI.out _).mono ?_
      rintro e w5 ⟨rfl, k⟩
      replace G := Box.mk (G.out.trans k); clear k
      go_wp2
      go_ret
      exact ⟨rfl, G.out⟩
    ·
      have HI := Box.mk hi; clear hi
      go_enter Try.func9, Try.ntmps9
      go_wp2_with fail
      refine (C0.out _).mono ?_
      rintro e w6 ⟨S0, HS0, rfl, k⟩
      have G := Box.mk k; clear k
      go_wp2_with fail
      refine (D0.out _).mono ?_
      rintro e w7 ⟨T0, HT0, rfl, k⟩
      replace G := Box.mk (G.out.trans k); clear k
      have q0 : (S0.toList == T0.toList) = true := HS0.out.same HT0.out rfl
      go_wp2_with fail
      refine (Fe.fixed_any _).mono ?_
      rintro e w8 ⟨rfl, k⟩
      replace G := Box.mk (G.out.trans k); clear k
      go_wp2_with fail
      refine (Fe.is_at HI.out _).mono ?_
      rintro e w9 ⟨rfl, k⟩
      replace G := Box.mk (G.out.trans k); clear k
      go_wp2_with fail
      refine (ris_at HI.out _).mono ?_
      rintro e w10 ⟨rfl, k⟩
      replace G := Box.mk (G.out.trans k); clear k
      go_wp2
      go_ret
      exact ⟨rfl, G.out⟩
  ·
    have hr : redR a = noS := if_neg h
    have C0 := Box.mk (fun w => no_out (reduce_any a w) hr); have D0 := Box.mk (fun w => no_out (rreduce_any a w) hr)
    clear h hr
    cases hi : isF a
    ·
      have HI := Box.mk hi; clear hi
      go_enter Try.func9, Try.ntmps9
      go_wp2_with fail
      refine (C0.out _).mono ?_
      rintro e w11 ⟨rfl, k⟩
      have G := Box.mk k; clear k
      go_wp2_with fail
      refine (D0.out _).mono ?_
      rintro e w12 ⟨rfl, k⟩
      replace G := Box.mk (G.out.trans k); clear k
      go_wp2_with fail
      refine (Fe.fixed_any _).mono ?_
      rintro e w13 ⟨rfl, k⟩
      replace G := Box.mk (G.out.trans k); clear k
      go_wp2_with fail
      refine (Fe.is_at HI.out _).mono ?_
      rintro e w14 ⟨rfl, k⟩
      replace G := Box.mk (G.out.trans k); clear k
      go_wp2_with fail
      refine (ris_at HI.out _).mono ?_
      rintro e w15 ⟨rfl, k⟩
      replace G := Box.mk (G.out.trans k); clear k
      go_wp2
      go_ret
      exact ⟨rfl, G.out⟩
    ·
      have HI := Box.mk hi; clear hi
      go_enter Try.func9, Try.ntmps9
      go_wp2_with fail
      refine (C0.out _).mono ?_
      rintro e w16 ⟨rfl, k⟩
      have G := Box.mk k; clear k
      go_wp2_with fail
      refine (D0.out _).mono ?_
      rintro e w17 ⟨rfl, k⟩
      replace G := Box.mk (G.out.trans k); clear k
      go_wp2_with fail
      refine (Fe.fixed_any _).mono ?_
      rintro e w18 ⟨rfl, k⟩
      replace G := Box.mk (G.out.trans k); clear k
      go_wp2_with fail
      refine (Fe.is_at HI.out _).mono ?_
      rintro e w19 ⟨rfl, k⟩
      replace G := Box.mk (G.out.trans k); clear k
      go_wp2_with fail
      refine (ris_at HI.out _).mono ?_
      rintro e w20 ⟨rfl, k⟩
      replace G := Box.mk (G.out.trans k); clear k
      go_wp2
      go_ret
      exact ⟨rfl, G.out⟩
theorem own : ownKnob Try.prog.godebug = none := by kernel_rfl
theorem laidOut : laidOutB Try.prog = true := by kernel_rfl
set_option maxRecDepth 100000 in
theorem lifted (os : Os) (started : os.Started) (H : Type) (enc : TypeId × Value → H) :
    ReturnsInHanded {} Try.checked os 9 .any (Rows.fieldReducesSpec.pre6 enc Try.prog Try.f9 Rows.fieldReducesRow.domain false) (Rows.fieldReducesSpec.post enc Try.prog Try.f9 false true false false) := by
  refine returnsInHanded_of_change (C := Try.checked) own started (by kernel_rfl) Try.func9
    (ChangeSpec.witness6 (enc := enc) (C := Try.checked) false ⟨#[], #[.string ⟨#[]⟩], []⟩ 8 (by kernel_rfl) (by kernel_rfl) (by kernel_rfl) (by kernel_rfl)) ?_
  intro W base args ds gs before hval0 hW hcnd _
  have hval : ∀ (j : Nat) t v, Try.f9.params[j]? = some t → args[j]? = some v → Value.okWide Try.prog W .any base t v := hval0
  have hW' := hW
  obtain ⟨p, q, hA0, hV, rfl, hfz, hnd⟩ := hW
  have hA : DataW.TrodAll enc Try.prog W 0 (fun _ => true) true Try.f9.params.toList args.toList ds p := hA0
  rw [Try.params9] at hA hval
  obtain ⟨v0, vs0, d0, ds0, p0, q0, hargs, rfl, rfl, h0, r0⟩ := trodAll_cons hA
  obtain ⟨rfl, rfl, rfl⟩ := trodAll_nil r0
  obtain rfl : args = #[v0] := by cases args; simp_all
  obtain ⟨rfl, rfl⟩ := trodVars_none hV
  obtain ⟨s0, rfl, rfl, rfl, ws0⟩ := open_string Try.underlying9 (hval 0 9 v0 rfl rfl) h0
  clear hA0 hval0
  refine (walk s0 ws0 W).mono fun e W' ⟨he, bel⟩ => ?_
  subst he
  exact ⟨_, rfl, _, _, _, [], _, [], hW', trodAll_mk1 (shut_bool Try.underlying4 _), (trodAll_cons_mk (shut_string Try.underlying9 ws0) trodAll_mk0), rfl, bel.frame _, fun h => by cases h⟩

theorem proved : Rows.FieldReducesSaid :=
  OpenClaim.holds_of_wide 9 Try.f9 rfl rfl rfl rfl rfl rfl rfl ⟨rfl, rfl, rfl, rfl, rfl⟩ rfl rfl rfl rfl rfl (by kernel_rfl) Try.func9 (by kernel_rfl)
    (of_decide_eq_true (by kernel_rfl)) (by unfold Func.isWrapper; first | (rw [if_pos (by decide +kernel)]; kernel_rfl) | (rw [if_neg (by decide +kernel)]; exact ⟨rfl, rfl⟩))
    (fun os started H enc _ => lifted os started H enc)
#print axioms proved
end Go.Proofs.Ytelbgoalikkikaa.fieldReduces
