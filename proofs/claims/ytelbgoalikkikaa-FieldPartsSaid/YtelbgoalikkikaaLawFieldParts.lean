/- Whatever two strings come in, the call of FieldParts returns true and leaves its arguments as they were. No condition. -/
import Derived.Test.YtelbgoalikkikaaFieldAE
import Derived.ProofKit
import Derived.OpenShut
import Derived.ShutString
import Derived.ChangeOld
namespace Go.Proofs.Ytelbgoalikkikaa.fieldParts
open Go Go.RowKit Go.ChangeShapes Go.WideShapes Go.ChangeAt Fe
open Go.ChangeMaps (open_string shut_string)
set_option linter.unusedVariables false

set_option maxRecDepth 100000 in
set_option maxHeartbeats 2000000 in
theorem walk (a : ByteArray) (wa : a.size ≤ maxLen) (b : ByteArray) (wb : b.size ≤ maxLen) (w : World) :
    Calls Try.prog 8 #[.string a, .string b] w fun e w' => e = .returned (.bool true) ∧ Below w.heap.size w w' := by
  clear wa wb
  cases ha : isF a
  ·
    have Ha := Box.mk ha; clear ha
    go_enter Try.func8, Try.ntmps8
    go_wp2_with fail
    refine (Fe.fixed_any _).mono ?_
    rintro e w1 ⟨rfl, k⟩
    have G := Box.mk k; clear k
    go_wp2_with fail
    refine (Fe.is_at Ha.out _).mono ?_
    rintro e w2 ⟨rfl, k⟩
    replace G := Box.mk (G.out.trans k); clear k
    go_wp2_with fail
    refine (Fe.fixed_any _).mono ?_
    rintro e w3 ⟨rfl, k⟩
    replace G := Box.mk (G.out.trans k); clear k
    go_wp2
    go_ret
    exact ⟨rfl, G.out⟩
  ·
    have Ha := Box.mk ha; clear ha
    cases hb : isF b
    ·
      have Hb := Box.mk hb; clear hb
      go_enter Try.func8, Try.ntmps8
      go_wp2_with fail
      refine (Fe.fixed_any _).mono ?_
      rintro e w4 ⟨rfl, k⟩
      have G := Box.mk k; clear k
      go_wp2_with fail
      refine (Fe.is_at Ha.out _).mono ?_
      rintro e w5 ⟨rfl, k⟩
      replace G := Box.mk (G.out.trans k); clear k
      go_wp2_with fail
      refine (Fe.is_at Hb.out _).mono ?_
      rintro e w6 ⟨rfl, k⟩
      replace G := Box.mk (G.out.trans k); clear k
      go_wp2_with fail
      refine (Fe.fixed_any _).mono ?_
      rintro e w7 ⟨rfl, k⟩
      replace G := Box.mk (G.out.trans k); clear k
      go_wp2
      go_ret
      exact ⟨rfl, G.out⟩
    ·
      have Hb := Box.mk hb; clear hb
      have Ea := Box.mk (El.of Ha.out)
      have Eb := Box.mk (El.of Hb.out)
      obtain ⟨na, hn⟩ : ∃ n, n = Go.Proofs.Ytelbgoalikkikaa.num a := ⟨_, rfl⟩
      rw [← hn] at Ea
      clear hn
      obtain ⟨nb, hn⟩ : ∃ n, n = Go.Proofs.Ytelbgoalikkikaa.num b := ⟨_, rfl⟩
      rw [← hn] at Eb
      clear hn
      by_cases hb0 : nb = 0
      ·
        have HB0 := Box.mk hb0; clear hb0
        go_enter Try.func8, Try.ntmps8
        go_wp2_with fail
        refine (Fe.fixed_any _).mono ?_
        rintro e w8 ⟨rfl, k⟩
        have G := Box.mk k; clear k
        go_wp2_with fail
        refine (Fe.is_at Ha.out _).mono ?_
        rintro e w9 ⟨rfl, k⟩
        replace G := Box.mk (G.out.trans k); clear k
        go_wp2_with fail
        refine (Fe.is_at Hb.out _).mono ?_
        rintro e w10 ⟨rfl, k⟩
        replace G := Box.mk (G.out.trans k); clear k
        go_wp2_with fail
        refine (lnum_el 0 (by omega) _).mono ?_
        rintro e w11 ⟨Z, HZ, rfl, k⟩
        replace G := Box.mk (G.out.trans k); clear k
        have q0 : (b.toList == Z.toList) = true := Eb.out.same HZ.out HB0.out
        go_wp2_with fail
        refine (Fe.fixed_any _).mono ?_
        rintro e w12 ⟨rfl, k⟩
        replace G := Box.mk (G.out.trans k); clear k
        go_wp2
        go_ret
        exact ⟨rfl, G.out⟩
      ·
        have HB0 := Box.mk (show 0 < nb by omega); clear hb0
        go_enter Try.func8, Try.ntmps8
        go_wp2_with fail
        refine (Fe.fixed_any _).mono ?_
        rintro e w13 ⟨rfl, k⟩
        have G := Box.mk k; clear k
        go_wp2_with fail
        refine (Fe.is_at Ha.out _).mono ?_
        rintro e w14 ⟨rfl, k⟩
        replace G := Box.mk (G.out.trans k); clear k
        go_wp2_with fail
        refine (Fe.is_at Hb.out _).mono ?_
        rintro e w15 ⟨rfl, k⟩
        replace G := Box.mk (G.out.trans k); clear k
        go_wp2_with fail
        refine (lnum_el 0 (by omega) _).mono ?_
        rintro e w16 ⟨Z, HZ, rfl, k⟩
        replace G := Box.mk (G.out.trans k); clear k
        have q0 : (b.toList == Z.toList) = false := Eb.out.other HZ.out (by have := HB0.out; omega)
        go_wp2_with fail
        refine (fmul_el Ea.out Eb.out _).mono ?_
        rintro e w17 ⟨P, HP, rfl, k⟩
        replace G := Box.mk (G.out.trans k); clear k
        go_wp2_with fail
        refine (finv_el Eb.out _).mono ?_
        rintro e w18 ⟨I, HI, rfl, k⟩
        replace G := Box.mk (G.out.trans k); clear k
        go_wp2_with fail
        refine (fmul_el HP.out HI.out _).mono ?_
        rintro e w19 ⟨Q, HQ, rfl, k⟩
        replace G := Box.mk (G.out.trans k); clear k
        go_wp2_with fail
        refine (finv_el HI.out _).mono ?_
        rintro e w20 ⟨J, HJ, rfl, k⟩
        replace G := Box.mk (G.out.trans k); clear k
        have q1 : (Q.toList == a.toList) = true := HQ.out.same Ea.out (by
          rw [Nat.mod_mul_mod, Nat.mul_assoc, Nat.mul_mod, inv_mul HB0.out Eb.out.lt, Nat.mul_one, Nat.mod_mod, Nat.mod_eq_of_lt Ea.out.lt])
        have q2 : (J.toList == b.toList) = true := HJ.out.same Eb.out (inv_inv HB0.out Eb.out.lt)
        clear q0
        by_cases ha0 : na = 0
        ·
          have HA0 := Box.mk ha0; clear ha0
          go_wp2_with fail
          refine (lnum_el 0 (by omega) _).mono ?_
          rintro e w21 ⟨Z3, HZ3, rfl, k⟩
          replace G := Box.mk (G.out.trans k); clear k
          have q3 : (P.toList == Z3.toList) = true := HP.out.same HZ3.out (by rw [HA0.out, Nat.zero_mul, Nat.zero_mod])
          go_wp2_with fail
          refine (lnum_el 0 (by omega) _).mono ?_
          rintro e w22 ⟨Z4, HZ4, rfl, k⟩
          replace G := Box.mk (G.out.trans k); clear k
          have q4 : (a.toList == Z4.toList) = true := Ea.out.same HZ4.out HA0.out
          go_wp2
          go_ret
          exact ⟨rfl, G.out⟩
        ·
          have HA0 := Box.mk ha0; clear ha0
          go_wp2_with fail
          refine (lnum_el 0 (by omega) _).mono ?_
          rintro e w23 ⟨Z3, HZ3, rfl, k⟩
          replace G := Box.mk (G.out.trans k); clear k
          have q3 : (P.toList == Z3.toList) = false := HP.out.other HZ3.out (fun h => by
            rcases mul_zero_f Ea.out.lt Eb.out.lt h with h | h
            · exact HA0.out h
            · have := HB0.out; omega)
          go_wp2_with fail
          refine (lnum_el 0 (by omega) _).mono ?_
          rintro e w24 ⟨Z4, HZ4, rfl, k⟩
          replace G := Box.mk (G.out.trans k); clear k
          have q4 : (a.toList == Z4.toList) = false := Ea.out.other HZ4.out HA0.out
          go_wp2
          go_ret
          exact ⟨rfl, G.out⟩
theorem own : ownKnob Try.prog.godebug = none := by kernel_rfl
theorem laidOut : laidOutB Try.prog = true := by kernel_rfl
set_option maxRecDepth 100000 in
theorem lifted (os : Os) (started : os.Started) (H : Type) (enc : TypeId × Value → H) :
    ReturnsInHanded {} Try.checked os 8 .any (Rows.fieldPartsSpec.pre6 enc Try.prog Try.f8 Rows.fieldPartsRow.domain false) (Rows.fieldPartsSpec.post enc Try.prog Try.f8 false true false false) := by
  refine returnsInHanded_of_change (C := Try.checked) own started (by kernel_rfl) Try.func8
    (ChangeSpec.witness6 (enc := enc) (C := Try.checked) false ⟨#[], #[.string ⟨#[]⟩, .string ⟨#[]⟩], []⟩ 8 (by kernel_rfl) (by kernel_rfl) (by kernel_rfl) (by kernel_rfl)) ?_
  intro W base args ds gs before hval0 hW hcnd _
  have hval : ∀ (j : Nat) t v, Try.f8.params[j]? = some t → args[j]? = some v → Value.okWide Try.prog W .any base t v := hval0
  have hW' := hW
  obtain ⟨p, q, hA0, hV, rfl, hfz, hnd⟩ := hW
  have hA : DataW.TrodAll enc Try.prog W 0 (fun _ => true) true Try.f8.params.toList args.toList ds p := hA0
  rw [Try.params8] at hA hval
  obtain ⟨v0, vs0, d0, ds0, p0, q0, hargs, rfl, rfl, h0, r0⟩ := trodAll_cons hA
  obtain ⟨v1, vs1, d1, ds1, p1, q1, rfl, rfl, rfl, h1, r1⟩ := trodAll_cons r0
  obtain ⟨rfl, rfl, rfl⟩ := trodAll_nil r1
  obtain rfl : args = #[v0, v1] := by cases args; simp_all
  obtain ⟨rfl, rfl⟩ := trodVars_none hV
  obtain ⟨s0, rfl, rfl, rfl, ws0⟩ := open_string Try.underlying9 (hval 0 9 v0 rfl rfl) h0
  obtain ⟨s1, rfl, rfl, rfl, ws1⟩ := open_string Try.underlying9 (hval 1 9 v1 rfl rfl) h1
  clear hA0 hval0
  refine (walk s0 ws0 s1 ws1 W).mono fun e W' ⟨he, bel⟩ => ?_
  subst he
  exact ⟨_, rfl, _, _, _, [], _, [], hW', trodAll_mk1 (shut_bool Try.underlying4 _), (trodAll_cons_mk (shut_string Try.underlying9 ws0) (trodAll_cons_mk (shut_string Try.underlying9 ws1) trodAll_mk0)), rfl, bel.frame _, fun h => by cases h⟩

theorem proved : Rows.FieldPartsSaid :=
  OpenClaim.holds_of_wide 8 Try.f8 rfl rfl rfl rfl rfl rfl rfl ⟨rfl, rfl, rfl, rfl, rfl⟩ rfl rfl rfl rfl rfl (by kernel_rfl) Try.func8 (by kernel_rfl)
    (of_decide_eq_true (by kernel_rfl)) (by unfold Func.isWrapper; first | (rw [if_pos (by decide +kernel)]; kernel_rfl) | (rw [if_neg (by decide +kernel)]; exact ⟨rfl, rfl⟩))
    (fun os started H enc _ => lifted os started H enc)
#print axioms proved
end Go.Proofs.Ytelbgoalikkikaa.fieldParts
