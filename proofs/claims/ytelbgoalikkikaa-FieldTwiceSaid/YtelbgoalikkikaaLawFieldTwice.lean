/- Whatever string comes in, the call of FieldTwice returns true and leaves its argument as it was. No condition. -/
import Derived.Test.YtelbgoalikkikaaFieldAE
import Derived.ProofKit
import Derived.OpenShut
import Derived.ShutString
import Derived.ChangeOld
namespace Go.Proofs.Ytelbgoalikkikaa.fieldTwice
open Go Go.RowKit Go.ChangeShapes Go.WideShapes Go.ChangeAt Fe
open Go.ChangeMaps (open_string shut_string)
set_option linter.unusedVariables false

set_option maxRecDepth 100000 in
set_option maxHeartbeats 2000000 in
theorem walk (a : ByteArray) (wa : a.size ≤ maxLen) (w : World) :
    Calls Try.prog 7 #[.string a] w fun e w' => e = .returned (.bool true) ∧ Below w.heap.size w w' := by
  clear wa
  cases ha : isF a
  ·
    have Ha := Box.mk ha; clear ha
    go_enter Try.func7, Try.ntmps7
    go_wp2_with fail
    refine (Fe.fixed_any _).mono ?_
    rintro e w1 ⟨rfl, k⟩
    have G := Box.mk k; clear k
    go_wp2_with fail
    refine (Fe.is_at Ha.out _).mono ?_
    rintro e w2 ⟨rfl, k⟩
    replace G := Box.mk (G.out.trans k); clear k
    go_wp2_with fail
    refine (Fe.fixed_any _).mono ?_
    rintro e w3 ⟨rfl, k⟩
    replace G := Box.mk (G.out.trans k); clear k
    go_wp2
    go_ret
    exact ⟨rfl, G.out⟩
  ·
    have Ha := Box.mk ha; clear ha
    have Ea := Box.mk (El.of Ha.out)
    obtain ⟨na, hn⟩ : ∃ n, n = Go.Proofs.Ytelbgoalikkikaa.num a := ⟨_, rfl⟩
    rw [← hn] at Ea
    clear hn
    go_enter Try.func7, Try.ntmps7
    go_wp2_with fail
    refine (Fe.fixed_any _).mono ?_
    rintro e w4 ⟨rfl, k⟩
    have G := Box.mk k; clear k
    go_wp2_with fail
    refine (Fe.is_at Ha.out _).mono ?_
    rintro e w5 ⟨rfl, k⟩
    replace G := Box.mk (G.out.trans k); clear k
    go_wp2_with fail
    refine (fadd_el Ea.out Ea.out _).mono ?_
    rintro e w6 ⟨S, HS, rfl, k⟩
    replace G := Box.mk (G.out.trans k); clear k
    go_wp2_with fail
    refine (lnum_el 2 (by omega) _).mono ?_
    rintro e w7 ⟨N2, HN2, rfl, k⟩
    replace G := Box.mk (G.out.trans k); clear k
    go_wp2_with fail
    refine (fmul_el HN2.out Ea.out _).mono ?_
    rintro e w8 ⟨T, HT, rfl, k⟩
    replace G := Box.mk (G.out.trans k); clear k
    go_wp2_with fail
    refine (lnum_el 0 (by omega) _).mono ?_
    rintro e w9 ⟨Z1, HZ1, rfl, k⟩
    replace G := Box.mk (G.out.trans k); clear k
    go_wp2_with fail
    refine (fsub_el HZ1.out Ea.out _).mono ?_
    rintro e w10 ⟨N, HN, rfl, k⟩
    replace G := Box.mk (G.out.trans k); clear k
    go_wp2_with fail
    refine (lnum_el 0 (by omega) _).mono ?_
    rintro e w11 ⟨Z2, HZ2, rfl, k⟩
    replace G := Box.mk (G.out.trans k); clear k
    go_wp2_with fail
    refine (fsub_el HZ2.out HN.out _).mono ?_
    rintro e w12 ⟨M, HM, rfl, k⟩
    replace G := Box.mk (G.out.trans k); clear k
    go_wp2_with fail
    refine (fadd_el Ea.out HN.out _).mono ?_
    rintro e w13 ⟨Z, HZ, rfl, k⟩
    replace G := Box.mk (G.out.trans k); clear k
    have h1 := Ea.out.lt
    have q1 : (S.toList == T.toList) = true := HS.out.same HT.out (by rw [Nat.two_mul])
    have q2 : (M.toList == a.toList) = true := HM.out.same Ea.out (by
      rw [Nat.zero_add, Nat.zero_add]
      by_cases h0 : na = 0
      · rw [h0, Nat.sub_zero, Nat.mod_self, Nat.sub_zero, Nat.mod_self]
      · rw [Nat.mod_eq_of_lt (show fp - na < fp by omega), Nat.mod_eq_of_lt (by omega)]; omega)
    have h0 : (na + (0 + (fp - na)) % fp) % fp = 0 := by
      rw [Nat.zero_add, Nat.add_mod_mod, show na + (fp - na) = fp by omega, Nat.mod_self]
    have H0 := Box.mk h0
    clear h0 h1
    go_wp2_with fail
    refine (lnum_el 0 (by omega) _).mono ?_
    rintro e w14 ⟨Z3, HZ3, rfl, k⟩
    replace G := Box.mk (G.out.trans k); clear k
    have q3 : (Z.toList == Z3.toList) = true := HZ.out.same HZ3.out H0.out
    go_wp2
    go_ret
    exact ⟨rfl, G.out⟩
theorem own : ownKnob Try.prog.godebug = none := by kernel_rfl
theorem laidOut : laidOutB Try.prog = true := by kernel_rfl
set_option maxRecDepth 100000 in
theorem lifted (os : Os) (started : os.Started) (H : Type) (enc : TypeId × Value → H) :
    ReturnsInHanded {} Try.checked os 7 .any (Rows.fieldTwiceSpec.pre6 enc Try.prog Try.f7 Rows.fieldTwiceRow.domain false) (Rows.fieldTwiceSpec.post enc Try.prog Try.f7 false true false false) := by
  refine returnsInHanded_of_change (C := Try.checked) own started (by kernel_rfl) Try.func7
    (ChangeSpec.witness6 (enc := enc) (C := Try.checked) false ⟨#[], #[.string ⟨#[]⟩], []⟩ 8 (by kernel_rfl) (by kernel_rfl) (by kernel_rfl) (by kernel_rfl)) ?_
  intro W base args ds gs before hval0 hW hcnd _
  have hval : ∀ (j : Nat) t v, Try.f7.params[j]? = some t → args[j]? = some v → Value.okWide Try.prog W .any base t v := hval0
  have hW' := hW
  obtain ⟨p, q, hA0, hV, rfl, hfz, hnd⟩ := hW
  have hA : DataW.TrodAll enc Try.prog W 0 (fun _ => true) true Try.f7.params.toList args.toList ds p := hA0
  rw [Try.params7] at hA hval
  obtain ⟨v0, vs0, d0, ds0, p0, q0, hargs, rfl, rfl, h0, r0⟩ := trodAll_cons hA
  obtain ⟨rfl, rfl, rfl⟩ := trodAll_nil r0
  obtain rfl : args = #[v0] := by cases args; simp_all
  obtain ⟨rfl, rfl⟩ := trodVars_none hV
  obtain ⟨s0, rfl, rfl, rfl, ws0⟩ := open_string Try.underlying9 (hval 0 9 v0 rfl rfl) h0
  clear hA0 hval0
  refine (walk s0 ws0 W).mono fun e W' ⟨he, bel⟩ => ?_
  subst he
  exact ⟨_, rfl, _, _, _, [], _, [], hW', trodAll_mk1 (shut_bool Try.underlying4 _), (trodAll_cons_mk (shut_string Try.underlying9 ws0) trodAll_mk0), rfl, bel.frame _, fun h => by cases h⟩

theorem proved : Rows.FieldTwiceSaid :=
  OpenClaim.holds_of_wide 7 Try.f7 rfl rfl rfl rfl rfl rfl rfl ⟨rfl, rfl, rfl, rfl, rfl⟩ rfl rfl rfl rfl rfl (by kernel_rfl) Try.func7 (by kernel_rfl)
    (of_decide_eq_true (by kernel_rfl)) (by unfold Func.isWrapper; first | (rw [if_pos (by decide +kernel)]; kernel_rfl) | (rw [if_neg (by decide +kernel)]; exact ⟨rfl, rfl⟩))
    (fun os started H enc _ => lifted os started H enc)
#print axioms proved
end Go.Proofs.Ytelbgoalikkikaa.fieldTwice
