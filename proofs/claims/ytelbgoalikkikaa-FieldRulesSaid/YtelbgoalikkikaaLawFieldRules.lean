/- Whatever three strings come in, the call of FieldRules returns true and leaves its arguments as they were. No condition. -/
import Derived.Test.YtelbgoalikkikaaFieldAE
import Derived.ProofKit
import Derived.OpenShut
import Derived.ShutString
import Derived.ChangeOld
namespace Go.Proofs.Ytelbgoalikkikaa.fieldRules
open Go Go.RowKit Go.ChangeShapes Go.WideShapes Go.ChangeAt Fe
open Go.ChangeMaps (open_string shut_string)
set_option linter.unusedVariables false

set_option maxRecDepth 100000 in
set_option maxHeartbeats 2000000 in
theorem walk (a : ByteArray) (wa : a.size ≤ maxLen) (b : ByteArray) (wb : b.size ≤ maxLen) (c : ByteArray) (wc : c.size ≤ maxLen) (w : World) :
    Calls Try.prog 5 #[.string a, .string b, .string c] w fun e w' => e = .returned (.bool true) ∧ Below w.heap.size w w' := by
  clear wa wb wc
  cases ha : isF a
  ·
    have Ha := Box.mk ha; clear ha
    go_enter Try.func5, Try.ntmps5
    go_wp2_with fail
    refine (Fe.fixed_any _).mono ?_
    rintro e w1 ⟨rfl, k⟩
    have G := Box.mk k; clear k
    go_wp2_with fail
    refine (Fe.is_at Ha.out _).mono ?_
    rintro e w2 ⟨rfl, k⟩
    replace G := Box.mk (G.out.trans k); clear k
    go_wp2_with fail
    refine (Fe.fixed_any _).mono ?_
    rintro e w3 ⟨rfl, k⟩
    replace G := Box.mk (G.out.trans k); clear k
    go_wp2
    go_ret
    exact ⟨rfl, G.out⟩
  ·
    have Ha := Box.mk ha; clear ha
    cases hb : isF b
    ·
      have Hb := Box.mk hb; clear hb
      go_enter Try.func5, Try.ntmps5
      go_wp2_with fail
      refine (Fe.fixed_any _).mono ?_
      rintro e w4 ⟨rfl, k⟩
      have G := Box.mk k; clear k
      go_wp2_with fail
      refine (Fe.is_at Ha.out _).mono ?_
      rintro e w5 ⟨rfl, k⟩
      replace G := Box.mk (G.out.trans k); clear k
      go_wp2_with fail
      refine (Fe.is_at Hb.out _).mono ?_
      rintro e w6 ⟨rfl, k⟩
      replace G := Box.mk (G.out.trans k); clear k
      go_wp2_with fail
      refine (Fe.fixed_any _).mono ?_
      rintro e w7 ⟨rfl, k⟩
      replace G := Box.mk (G.out.trans k); clear k
      go_wp2
      go_ret
      exact ⟨rfl, G.out⟩
    ·
      have Hb := Box.mk hb; clear hb
      cases hc : isF c
      ·
        have Hc := Box.mk hc; clear hc
        go_enter Try.func5, Try.ntmps5
        go_wp2_with fail
        refine (Fe.fixed_any _).mono ?_
        rintro e w8 ⟨rfl, k⟩
        have G := Box.mk k; clear k
        go_wp2_with fail
        refine (Fe.is_at Ha.out _).mono ?_
        rintro e w9 ⟨rfl, k⟩
        replace G := Box.mk (G.out.trans k); clear k
        go_wp2_with fail
        refine (Fe.is_at Hb.out _).mono ?_
        rintro e w10 ⟨rfl, k⟩
        replace G := Box.mk (G.out.trans k); clear k
        go_wp2_with fail
        refine (Fe.is_at Hc.out _).mono ?_
        rintro e w11 ⟨rfl, k⟩
        replace G := Box.mk (G.out.trans k); clear k
        go_wp2_with fail
        refine (Fe.fixed_any _).mono ?_
        rintro e w12 ⟨rfl, k⟩
        replace G := Box.mk (G.out.trans k); clear k
        go_wp2
        go_ret
        exact ⟨rfl, G.out⟩
      ·
        have Hc := Box.mk hc; clear hc
        have Ea := Box.mk (El.of Ha.out)
        have Eb := Box.mk (El.of Hb.out)
        have Ec := Box.mk (El.of Hc.out)
        obtain ⟨na, hn⟩ : ∃ n, n = Go.Proofs.Ytelbgoalikkikaa.num a := ⟨_, rfl⟩
        rw [← hn] at Ea
        clear hn
        obtain ⟨nb, hn⟩ : ∃ n, n = Go.Proofs.Ytelbgoalikkikaa.num b := ⟨_, rfl⟩
        rw [← hn] at Eb
        clear hn
        obtain ⟨nc, hn⟩ : ∃ n, n = Go.Proofs.Ytelbgoalikkikaa.num c := ⟨_, rfl⟩
        rw [← hn] at Ec
        clear hn
        go_enter Try.func5, Try.ntmps5
        go_wp2_with fail
        refine (Fe.fixed_any _).mono ?_
        rintro e w13 ⟨rfl, k⟩
        have G := Box.mk k; clear k
        go_wp2_with fail
        refine (Fe.is_at Ha.out _).mono ?_
        rintro e w14 ⟨rfl, k⟩
        replace G := Box.mk (G.out.trans k); clear k
        go_wp2_with fail
        refine (Fe.is_at Hb.out _).mono ?_
        rintro e w15 ⟨rfl, k⟩
        replace G := Box.mk (G.out.trans k); clear k
        go_wp2_with fail
        refine (Fe.is_at Hc.out _).mono ?_
        rintro e w16 ⟨rfl, k⟩
        replace G := Box.mk (G.out.trans k); clear k
        go_wp2_with fail
        refine (fadd_el Ea.out Eb.out _).mono ?_
        rintro e w17 ⟨AB, HAB, rfl, k⟩
        replace G := Box.mk (G.out.trans k); clear k
        go_wp2_with fail
        refine (fadd_el Eb.out Ea.out _).mono ?_
        rintro e w18 ⟨BA, HBA, rfl, k⟩
        replace G := Box.mk (G.out.trans k); clear k
        go_wp2_with fail
        refine (fadd_el Eb.out Ec.out _).mono ?_
        rintro e w19 ⟨BC, HBC, rfl, k⟩
        replace G := Box.mk (G.out.trans k); clear k
        go_wp2_with fail
        refine (fadd_el HAB.out Ec.out _).mono ?_
        rintro e w20 ⟨X, HX, rfl, k⟩
        replace G := Box.mk (G.out.trans k); clear k
        go_wp2_with fail
        refine (fadd_el Ea.out HBC.out _).mono ?_
        rintro e w21 ⟨Y, HY, rfl, k⟩
        replace G := Box.mk (G.out.trans k); clear k
        go_wp2_with fail
        refine (fmul_el Ea.out Eb.out _).mono ?_
        rintro e w22 ⟨PAB, HPAB, rfl, k⟩
        replace G := Box.mk (G.out.trans k); clear k
        go_wp2_with fail
        refine (fmul_el Eb.out Ea.out _).mono ?_
        rintro e w23 ⟨PBA, HPBA, rfl, k⟩
        replace G := Box.mk (G.out.trans k); clear k
        go_wp2_with fail
        refine (fmul_el Eb.out Ec.out _).mono ?_
        rintro e w24 ⟨PBC, HPBC, rfl, k⟩
        replace G := Box.mk (G.out.trans k); clear k
        go_wp2_with fail
        refine (fmul_el Ea.out Ec.out _).mono ?_
        rintro e w25 ⟨PAC, HPAC, rfl, k⟩
        replace G := Box.mk (G.out.trans k); clear k
        go_wp2_with fail
        refine (fmul_el HPAB.out Ec.out _).mono ?_
        rintro e w26 ⟨U, HU, rfl, k⟩
        replace G := Box.mk (G.out.trans k); clear k
        go_wp2_with fail
        refine (fmul_el Ea.out HPBC.out _).mono ?_
        rintro e w27 ⟨V, HV, rfl, k⟩
        replace G := Box.mk (G.out.trans k); clear k
        go_wp2_with fail
        refine (fmul_el Ea.out HBC.out _).mono ?_
        rintro e w28 ⟨M, HM, rfl, k⟩
        replace G := Box.mk (G.out.trans k); clear k
        go_wp2_with fail
        refine (fadd_el HPAB.out HPAC.out _).mono ?_
        rintro e w29 ⟨R, HR, rfl, k⟩
        replace G := Box.mk (G.out.trans k); clear k
        go_wp2_with fail
        refine (fsub_el Ea.out Eb.out _).mono ?_
        rintro e w30 ⟨Df, HDf, rfl, k⟩
        replace G := Box.mk (G.out.trans k); clear k
        go_wp2_with fail
        refine (fadd_el HDf.out Eb.out _).mono ?_
        rintro e w31 ⟨K, HK, rfl, k⟩
        replace G := Box.mk (G.out.trans k); clear k
        have q1 : (AB.toList == BA.toList) = true := HAB.out.same HBA.out (by rw [Nat.add_comm])
        have q2 : (X.toList == Y.toList) = true := HX.out.same HY.out (by rw [Nat.mod_add_mod, Nat.add_mod_mod, Nat.add_assoc])
        have q3 : (PAB.toList == PBA.toList) = true := HPAB.out.same HPBA.out (by rw [Nat.mul_comm])
        have q4 : (U.toList == V.toList) = true := HU.out.same HV.out (by rw [Nat.mod_mul_mod, Nat.mul_mod_mod, Nat.mul_assoc])
        have q5 : (M.toList == R.toList) = true := HM.out.same HR.out (by rw [Nat.mul_mod_mod, Nat.mod_add_mod, Nat.add_mod_mod, Nat.mul_add])
        have q6 : (K.toList == a.toList) = true := HK.out.same Ea.out (by
          have h1 := Ea.out.lt; have h2 := Eb.out.lt
          rw [Nat.mod_add_mod, show na + (fp - nb) + nb = na + fp by omega, Nat.add_mod_right, Nat.mod_eq_of_lt h1])
        go_wp2_with fail
        refine (Fe.is_at HAB.out.is _).mono ?_
        rintro e w32 ⟨rfl, k⟩
        replace G := Box.mk (G.out.trans k); clear k
        go_wp2_with fail
        refine (Fe.is_at HPAB.out.is _).mono ?_
        rintro e w33 ⟨rfl, k⟩
        replace G := Box.mk (G.out.trans k); clear k
        go_wp2_with fail
        refine (Fe.is_at HDf.out.is _).mono ?_
        rintro e w34 ⟨rfl, k⟩
        replace G := Box.mk (G.out.trans k); clear k
        go_wp2
        go_ret
        exact ⟨rfl, G.out⟩
theorem own : ownKnob Try.prog.godebug = none := by kernel_rfl
theorem laidOut : laidOutB Try.prog = true := by kernel_rfl
set_option maxRecDepth 100000 in
theorem lifted (os : Os) (started : os.Started) (H : Type) (enc : TypeId × Value → H) :
    ReturnsInHanded {} Try.checked os 5 .any (Rows.fieldRulesSpec.pre6 enc Try.prog Try.f5 Rows.fieldRulesRow.domain false) (Rows.fieldRulesSpec.post enc Try.prog Try.f5 false true false false) := by
  refine returnsInHanded_of_change (C := Try.checked) own started (by kernel_rfl) Try.func5
    (ChangeSpec.witness6 (enc := enc) (C := Try.checked) false ⟨#[], #[.string ⟨#[]⟩, .string ⟨#[]⟩, .string ⟨#[]⟩], []⟩ 8 (by kernel_rfl) (by kernel_rfl) (by kernel_rfl) (by kernel_rfl)) ?_
  intro W base args ds gs before hval0 hW hcnd _
  have hval : ∀ (j : Nat) t v, Try.f5.params[j]? = some t → args[j]? = some v → Value.okWide Try.prog W .any base t v := hval0
  have hW' := hW
  obtain ⟨p, q, hA0, hV, rfl, hfz, hnd⟩ := hW
  have hA : DataW.TrodAll enc Try.prog W 0 (fun _ => true) true Try.f5.params.toList args.toList ds p := hA0
  rw [Try.params5] at hA hval
  obtain ⟨v0, vs0, d0, ds0, p0, q0, hargs, rfl, rfl, h0, r0⟩ := trodAll_cons hA
  obtain ⟨v1, vs1, d1, ds1, p1, q1, rfl, rfl, rfl, h1, r1⟩ := trodAll_cons r0
  obtain ⟨v2, vs2, d2, ds2, p2, q2, rfl, rfl, rfl, h2, r2⟩ := trodAll_cons r1
  obtain ⟨rfl, rfl, rfl⟩ := trodAll_nil r2
  obtain rfl : args = #[v0, v1, v2] := by cases args; simp_all
  obtain ⟨rfl, rfl⟩ := trodVars_none hV
  obtain ⟨s0, rfl, rfl, rfl, ws0⟩ := open_string Try.underlying9 (hval 0 9 v0 rfl rfl) h0
  obtain ⟨s1, rfl, rfl, rfl, ws1⟩ := open_string Try.underlying9 (hval 1 9 v1 rfl rfl) h1
  obtain ⟨s2, rfl, rfl, rfl, ws2⟩ := open_string Try.underlying9 (hval 2 9 v2 rfl rfl) h2
  clear hA0 hval0
  refine (walk s0 ws0 s1 ws1 s2 ws2 W).mono fun e W' ⟨he, bel⟩ => ?_
  subst he
  exact ⟨_, rfl, _, _, _, [], _, [], hW', trodAll_mk1 (shut_bool Try.underlying4 _), (trodAll_cons_mk (shut_string Try.underlying9 ws0) (trodAll_cons_mk (shut_string Try.underlying9 ws1) (trodAll_cons_mk (shut_string Try.underlying9 ws2) trodAll_mk0))), rfl, bel.frame _, fun h => by cases h⟩

theorem proved : Rows.FieldRulesSaid :=
  OpenClaim.holds_of_wide 5 Try.f5 rfl rfl rfl rfl rfl rfl rfl ⟨rfl, rfl, rfl, rfl, rfl⟩ rfl rfl rfl rfl rfl (by kernel_rfl) Try.func5 (by kernel_rfl)
    (of_decide_eq_true (by kernel_rfl)) (by unfold Func.isWrapper; first | (rw [if_pos (by decide +kernel)]; kernel_rfl) | (rw [if_neg (by decide +kernel)]; exact ⟨rfl, rfl⟩))
    (fun os started H enc _ => lifted os started H enc)
#print axioms proved
end Go.Proofs.Ytelbgoalikkikaa.fieldRules
