/- Whatever two strings come in, the call of SignSigns returns true and leaves its arguments as they were. No condition. -/
import Derived.Test.YtedmkpdohffigaaGreatM34
import Derived.ProofKit
import Derived.OpenShut
import Derived.ShutString
import Derived.ChangeOld
namespace Go.Proofs.YtedmkpdohffigaaGreat.signSigns
open Go Go.RowKit Go.ChangeShapes Go.WideShapes Go.ChangeAt Fe
open Go.ChangeMaps (open_string shut_string)
set_option linter.unusedVariables false

set_option maxRecDepth 100000 in
set_option maxHeartbeats 4000000 in
theorem walk (seed : ByteArray) (wseed : seed.size ≤ maxLen) (message : ByteArray) (wmessage : message.size ≤ maxLen) (w : World) :
    Calls Tryz.prog 3 #[.string seed, .string message] w fun e w' => e = .returned (.bool true) ∧ Below w.heap.size w w' := by
  clear wseed
  have HM0 := Box.mk (fun v => short_any message v wmessage); clear wmessage
  by_cases h : seed.size = 32
  ·
    have HPU := Box.mk (public_yes seed h); have HPD := Box.mk (dpub_yes seed h); have HS := Box.mk h; clear h
    go_enter Tryz.func3, Tryz.ntmps3
    go_wp2_with fail
    refine (HM0.out _).mono ?_
    rintro e w1 ⟨m, HM, rfl, k⟩
    have G := Box.mk (Gr.of k); clear k
    go_wp2_with fail
    refine (HPU.out _).mono ?_
    rintro e w2 ⟨K, HK, rfl, k⟩
    replace G := Box.mk (G.out.trans (Gr.of k)); clear k
    go_wp2_with fail
    refine (HPD.out _).mono ?_
    rintro e w3 ⟨K2, HK2, rfl, k⟩
    replace G := Box.mk (G.out.trans (Gr.of k)); clear k
    obtain rfl : K2 = K := HK2.out.eq.trans HK.out.eq.symm
    go_wp2_with fail
    refine (sign_yes seed m HS.out HM.out _).mono ?_
    rintro e w4 ⟨T, HT, rfl, k⟩
    replace G := Box.mk (G.out.trans (Gr.of k)); clear k
    go_wp2_with fail
    refine (dsign_yes seed m HS.out HM.out _).mono ?_
    rintro e w5 ⟨T2, HT2, rfl, k⟩
    replace G := Box.mk (G.out.trans (Gr.of k)); clear k
    obtain rfl : T2 = T := HT2.out.uniq HT.out
    go_wp2_with fail
    refine (lfixed7 _).mono ?_
    rintro e w6 ⟨rfl, k⟩
    replace G := Box.mk (G.out.trans (Gr.of k)); clear k
    have q1 : (K2.toList == K2.toList) = true := by simp
    have q2 : (T2.toList == T2.toList) = true := by simp
    go_wp2
    go_ret
    exact ⟨rfl, G.out⟩
  ·
    have HPU := Box.mk (public_no seed h); have HPD := Box.mk (dpub_no seed h); have HS := Box.mk h; clear h
    go_enter Tryz.func3, Tryz.ntmps3
    go_wp2_with fail
    refine (HM0.out _).mono ?_
    rintro e w7 ⟨m, HM, rfl, k⟩
    have G := Box.mk (Gr.of k); clear k
    go_wp2_with fail
    refine (HPU.out _).mono ?_
    rintro e w8 ⟨rfl, k⟩
    replace G := Box.mk (G.out.trans (Gr.of k)); clear k
    go_wp2_with fail
    refine (HPD.out _).mono ?_
    rintro e w9 ⟨rfl, k⟩
    replace G := Box.mk (G.out.trans (Gr.of k)); clear k
    have HSN := Box.mk (fun v => sign_no seed m HS.out v); have HDN := Box.mk (fun v => dsign_no seed m HS.out v)
    go_wp2_with fail
    refine (HSN.out _).mono ?_
    rintro e w10 ⟨rfl, k⟩
    replace G := Box.mk (G.out.trans (Gr.of k)); clear k
    go_wp2_with fail
    refine (HDN.out _).mono ?_
    rintro e w11 ⟨rfl, k⟩
    replace G := Box.mk (G.out.trans (Gr.of k)); clear k
    go_wp2_with fail
    refine (lfixed7 _).mono ?_
    rintro e w12 ⟨rfl, k⟩
    replace G := Box.mk (G.out.trans (Gr.of k)); clear k
    go_wp2
    go_ret
    exact ⟨rfl, G.out⟩
theorem own : ownKnob Tryz.prog.godebug = none := by kernel_rfl
theorem laidOut : laidOutB Tryz.prog = true := by kernel_rfl
set_option maxRecDepth 100000 in
theorem lifted (os : Os) (started : os.Started) (H : Type) (enc : TypeId × Value → H) :
    ReturnsInHanded {} Tryz.checked os 3 .any (Rows.signSignsSpec.pre6 enc Tryz.prog Tryz.f3 Rows.signSignsRow.domain false) (Rows.signSignsSpec.post enc Tryz.prog Tryz.f3 false true false false) := by
  refine returnsInHanded_of_change (C := Tryz.checked) own started (by kernel_rfl) Tryz.func3
    (ChangeSpec.witness6 (enc := enc) (C := Tryz.checked) false ⟨#[], #[.string ⟨#[]⟩, .string ⟨#[]⟩], []⟩ 8 (by kernel_rfl) (by kernel_rfl) (by kernel_rfl) (by kernel_rfl)) ?_
  intro W base args ds gs before hval0 hW hcnd _
  have hval : ∀ (j : Nat) t v, Tryz.f3.params[j]? = some t → args[j]? = some v → Value.okWide Tryz.prog W .any base t v := hval0
  have hW' := hW
  obtain ⟨p, q, hA0, hV, rfl, hfz, hnd⟩ := hW
  have hA : DataW.TrodAll enc Tryz.prog W 0 (fun _ => true) true Tryz.f3.params.toList args.toList ds p := hA0
  rw [Tryz.params3] at hA hval
  obtain ⟨v0, vs0, d0, ds0, p0, q0, hargs, rfl, rfl, h0, r0⟩ := trodAll_cons hA
  obtain ⟨v1, vs1, d1, ds1, p1, q1, rfl, rfl, rfl, h1, r1⟩ := trodAll_cons r0
  obtain ⟨rfl, rfl, rfl⟩ := trodAll_nil r1
  obtain rfl : args = #[v0, v1] := by cases args; simp_all
  obtain ⟨rfl, rfl⟩ := trodVars_none hV
  obtain ⟨s0, rfl, rfl, rfl, ws0⟩ := open_string Tryz.underlying9 (hval 0 9 v0 rfl rfl) h0
  obtain ⟨s1, rfl, rfl, rfl, ws1⟩ := open_string Tryz.underlying9 (hval 1 9 v1 rfl rfl) h1
  clear hA0 hval0
  refine (walk s0 ws0 s1 ws1 W).mono fun e W' ⟨he, bel⟩ => ?_
  subst he
  exact ⟨_, rfl, _, _, _, [], _, [], hW', trodAll_mk1 (shut_bool Tryz.underlying4 _), (trodAll_cons_mk (shut_string Tryz.underlying9 ws0) (trodAll_cons_mk (shut_string Tryz.underlying9 ws1) trodAll_mk0)), rfl, bel.frame _, fun h => by cases h⟩

theorem proved : Rows.SignSignsSaid :=
  OpenClaim.holds_of_wide 3 Tryz.f3 rfl rfl rfl rfl rfl rfl rfl ⟨rfl, rfl, rfl, rfl, rfl⟩ rfl rfl rfl rfl rfl (by kernel_rfl) Tryz.func3 (by kernel_rfl)
    (of_decide_eq_true (by kernel_rfl)) (by unfold Func.isWrapper; first | (rw [if_pos (by decide +kernel)]; kernel_rfl) | (rw [if_neg (by decide +kernel)]; exact ⟨rfl, rfl⟩))
    (fun os started H enc _ => lifted os started H enc)
#print axioms proved
end Go.Proofs.YtedmkpdohffigaaGreat.signSigns
