/- Whatever three strings come in, the call of SignVerifies returns true and leaves its arguments as they were. No condition. -/
import Derived.Test.YtedmkpdohffigaaGreatM34
import Derived.ProofKit
import Derived.OpenShut
import Derived.ShutString
import Derived.ChangeOld
namespace Go.Proofs.YtedmkpdohffigaaGreat.signVerifies
open Go Go.RowKit Go.ChangeShapes Go.WideShapes Go.ChangeAt Fe
open Go.ChangeMaps (open_string shut_string)
set_option linter.unusedVariables false

set_option maxRecDepth 100000 in
set_option maxHeartbeats 4000000 in
theorem walk (key : ByteArray) (wkey : key.size ≤ maxLen) (message : ByteArray) (wmessage : message.size ≤ maxLen) (signature : ByteArray) (wsignature : signature.size ≤ maxLen) (w : World) :
    Calls Tryz.prog 4 #[.string key, .string message, .string signature] w fun e w' => e = .returned (.bool true) ∧ Below w.heap.size w w' := by
  clear wkey wsignature
  have HM0 := Box.mk (fun v => short_any message v wmessage); clear wmessage
  go_enter Tryz.func4, Tryz.ntmps4
  go_wp2_with fail
  refine (HM0.out _).mono ?_
  rintro e w1 ⟨m, HM, rfl, k⟩
  have G := Box.mk (Gr.of k); clear k
  go_wp2_with fail
  refine (lfixed7 _).mono ?_
  rintro e w2 ⟨rfl, k⟩
  replace G := Box.mk (G.out.trans (Gr.of k)); clear k
  go_wp2_with fail
  refine (verify_any key m signature HM.out _).mono ?_
  rintro e w3 ⟨b, rfl, hb, k⟩
  replace G := Box.mk (G.out.trans (Gr.of k)); clear k
  go_wp2_with fail
  refine (dver_any key m signature HM.out _).mono ?_
  rintro e w4 ⟨c, rfl, hc, k⟩
  replace G := Box.mk (G.out.trans (Gr.of k)); clear k
  obtain rfl : c = b := by rw [Bool.eq_iff_iff, hc, hb]
  clear hb hc
  have q1 : (c == c) = true := by simp
  go_wp2
  go_ret
  exact ⟨rfl, G.out⟩
theorem own : ownKnob Tryz.prog.godebug = none := by kernel_rfl
theorem laidOut : laidOutB Tryz.prog = true := by kernel_rfl
set_option maxRecDepth 100000 in
theorem lifted (os : Os) (started : os.Started) (H : Type) (enc : TypeId × Value → H) :
    ReturnsInHanded {} Tryz.checked os 4 .any (Rows.signVerifiesSpec.pre6 enc Tryz.prog Tryz.f4 Rows.signVerifiesRow.domain false) (Rows.signVerifiesSpec.post enc Tryz.prog Tryz.f4 false true false false) := by
  refine returnsInHanded_of_change (C := Tryz.checked) own started (by kernel_rfl) Tryz.func4
    (ChangeSpec.witness6 (enc := enc) (C := Tryz.checked) false ⟨#[], #[.string ⟨#[]⟩, .string ⟨#[]⟩, .string ⟨#[]⟩], []⟩ 8 (by kernel_rfl) (by kernel_rfl) (by kernel_rfl) (by kernel_rfl)) ?_
  intro W base args ds gs before hval0 hW hcnd _
  have hval : ∀ (j : Nat) t v, Tryz.f4.params[j]? = some t → args[j]? = some v → Value.okWide Tryz.prog W .any base t v := hval0
  have hW' := hW
  obtain ⟨p, q, hA0, hV, rfl, hfz, hnd⟩ := hW
  have hA : DataW.TrodAll enc Tryz.prog W 0 (fun _ => true) true Tryz.f4.params.toList args.toList ds p := hA0
  rw [Tryz.params4] at hA hval
  obtain ⟨v0, vs0, d0, ds0, p0, q0, hargs, rfl, rfl, h0, r0⟩ := trodAll_cons hA
  obtain ⟨v1, vs1, d1, ds1, p1, q1, rfl, rfl, rfl, h1, r1⟩ := trodAll_cons r0
  obtain ⟨v2, vs2, d2, ds2, p2, q2, rfl, rfl, rfl, h2, r2⟩ := trodAll_cons r1
  obtain ⟨rfl, rfl, rfl⟩ := trodAll_nil r2
  obtain rfl : args = #[v0, v1, v2] := by cases args; simp_all
  obtain ⟨rfl, rfl⟩ := trodVars_none hV
  obtain ⟨s0, rfl, rfl, rfl, ws0⟩ := open_string Tryz.underlying9 (hval 0 9 v0 rfl rfl) h0
  obtain ⟨s1, rfl, rfl, rfl, ws1⟩ := open_string Tryz.underlying9 (hval 1 9 v1 rfl rfl) h1
  obtain ⟨s2, rfl, rfl, rfl, ws2⟩ := open_string Tryz.underlying9 (hval 2 9 v2 rfl rfl) h2
  clear hA0 hval0
  refine (walk s0 ws0 s1 ws1 s2 ws2 W).mono fun e W' ⟨he, bel⟩ => ?_
  subst he
  exact ⟨_, rfl, _, _, _, [], _, [], hW', trodAll_mk1 (shut_bool Tryz.underlying4 _), (trodAll_cons_mk (shut_string Tryz.underlying9 ws0) (trodAll_cons_mk (shut_string Tryz.underlying9 ws1) (trodAll_cons_mk (shut_string Tryz.underlying9 ws2) trodAll_mk0))), rfl, bel.frame _, fun h => by cases h⟩

theorem proved : Rows.SignVerifiesSaid :=
  OpenClaim.holds_of_wide 4 Tryz.f4 rfl rfl rfl rfl rfl rfl rfl ⟨rfl, rfl, rfl, rfl, rfl⟩ rfl rfl rfl rfl rfl (by kernel_rfl) Tryz.func4 (by kernel_rfl)
    (of_decide_eq_true (by kernel_rfl)) (by unfold Func.isWrapper; first | (rw [if_pos (by decide +kernel)]; kernel_rfl) | (rw [if_neg (by decide +kernel)]; exact ⟨rfl, rfl⟩))
    (fun os started H enc _ => lifted os started H enc)
#print axioms proved
end Go.Proofs.YtedmkpdohffigaaGreat.signVerifies
