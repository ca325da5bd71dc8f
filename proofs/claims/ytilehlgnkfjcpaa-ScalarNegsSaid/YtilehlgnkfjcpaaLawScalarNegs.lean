/- Whatever string comes in, the call of ScalarNegs returns true and leaves its argument as it was. No condition. -/
import Derived.Test.YtilehlgnkfjcpaaScalarM
import Derived.ProofKit
import Derived.OpenShut
import Derived.ShutString
import Derived.ChangeOld
namespace Go.Proofs.Ytilehlgnkfjcpaa.scalarNegs
open Go Go.RowKit Go.ChangeShapes Go.WideShapes Go.ChangeAt
open Go.ChangeMaps (open_string shut_string)
set_option linter.unusedVariables false

theorem neg_eq (x : Nat) : (x + x * ((ordL : Int) + -1).toNat % ordL) % ordL = 0 % ordL := by
  rw [Nat.add_mod_mod]
  have : x + x * ((ordL : Int) + -1).toNat = x * ordL := by
    rw [show ((ordL : Int) + -1).toNat = ordL - 1 from by omega, Nat.mul_sub, Nat.mul_one, Nat.add_sub_cancel']
    exact Nat.le_mul_of_pos_right _ ordL_pos
  rw [this, Nat.mul_mod_left, Nat.zero_mod]
set_option maxRecDepth 100000 in
set_option maxHeartbeats 1000000 in
theorem walk (a : ByteArray) (wa : a.size ≤ maxLen) (w : World) :
    Calls Try.prog 8 #[.string a] w fun e w' => e = .returned (.bool true) ∧ Below w.heap.size w w' := by
  clear wa
  by_cases ha : a.size = 32
  · have ha' : ((a.size : Int) != 32) = false := by simp; omega
    have HA := Box.mk ha; clear ha
    go_enter Try.func8, Try.ntmps8
    go_wp2_with fail
    refine (lorder_any (-1) (by omega) _).mono ?_
    rintro e w1 ⟨O, HO, rfl, k1⟩
    have h1 := k1; clear k1
    go_wp2_with fail
    refine (mul_ok a O HA.out (by rw [HO.out, sbytes_size]) _).mono ?_
    rintro e w2 ⟨N, HN, rfl, k2⟩
    have h2 := bthen h1 k2; clear h1 k2
    go_wp2_with fail
    refine (add_ok a N HA.out (by rw [HN.out, sc_size]) _).mono ?_
    rintro e w3 ⟨Z, HZ, rfl, k3⟩
    have h3 := bthen h2 k3; clear h2 k3
    go_wp2_with fail
    refine (fixed_any _).mono ?_
    rintro e w4 ⟨rfl, k4⟩
    have h4 := bthen h3 k4; clear h3 k4
    go_wp2_with fail
    refine (lnum_any 0 (by omega) _).mono ?_
    rintro e w5 ⟨M, HM, rfl, k5⟩
    have h5 := bthen h4 k5; clear h4 k5
    have q1 : (Z.toList == M.toList) = true := eqT (by rw [HZ.out, HM.out, HN.out, HO.out, num_sc, sc_order _ (by omega)]; exact sc_congr (neg_eq _))
    go_wp2
    go_ret
    exact ⟨rfl, h5⟩
  · have ha' : ((a.size : Int) != 32) = true := by simp; omega
    clear ha
    go_enter Try.func8, Try.ntmps8
    go_wp2_with fail
    refine (fixed_any _).mono ?_
    rintro e w1 ⟨rfl, k1⟩
    have h1 := k1; clear k1
    go_wp2
    go_ret
    exact ⟨rfl, h1⟩
theorem own : ownKnob Try.prog.godebug = none := by kernel_rfl
theorem laidOut : laidOutB Try.prog = true := by kernel_rfl
set_option maxRecDepth 100000 in
theorem lifted (os : Os) (started : os.Started) (H : Type) (enc : TypeId × Value → H) :
    ReturnsInHanded {} Try.checked os 8 .any (Rows.scalarNegsSpec.pre6 enc Try.prog Try.f8 Rows.scalarNegsRow.domain false) (Rows.scalarNegsSpec.post enc Try.prog Try.f8 false true false false) := by
  refine returnsInHanded_of_change (C := Try.checked) own started (by kernel_rfl) Try.func8
    (ChangeSpec.witness6 (enc := enc) (C := Try.checked) false ⟨#[], #[.string ⟨#[]⟩], []⟩ 8 (by kernel_rfl) (by kernel_rfl) (by kernel_rfl) (by kernel_rfl)) ?_
  intro W base args ds gs before hval0 hW hcnd _
  have hval : ∀ (j : Nat) t v, Try.f8.params[j]? = some t → args[j]? = some v → Value.okWide Try.prog W .any base t v := hval0
  have hW' := hW
  obtain ⟨p, q, hA0, hV, rfl, hfz, hnd⟩ := hW
  have hA : DataW.TrodAll enc Try.prog W 0 (fun _ => true) true Try.f8.params.toList args.toList ds p := hA0
  rw [Try.params8] at hA hval
  obtain ⟨v0, vs0, d0, ds0, p0, q0, hargs, rfl, rfl, h0, r0⟩ := trodAll_cons hA
  obtain ⟨rfl, rfl, rfl⟩ := trodAll_nil r0
  obtain rfl : args = #[v0] := by cases args; simp_all
  obtain ⟨rfl, rfl⟩ := trodVars_none hV
  obtain ⟨s0, rfl, rfl, rfl, ws0⟩ := open_string Try.underlying9 (hval 0 9 v0 rfl rfl) h0
  clear hA0 hval0
  refine (walk s0 ws0 W).mono fun e W' ⟨he, bel⟩ => ?_
  subst he
  exact ⟨_, rfl, _, _, _, [], _, [], hW', trodAll_mk1 (shut_bool Try.underlying4 _), (trodAll_cons_mk (shut_string Try.underlying9 ws0) trodAll_mk0), rfl, bel.frame _, fun h => by cases h⟩

theorem proved : Rows.ScalarNegsSaid :=
  OpenClaim.holds_of_wide 8 Try.f8 rfl rfl rfl rfl rfl rfl rfl ⟨rfl, rfl, rfl, rfl, rfl⟩ rfl rfl rfl rfl rfl (by kernel_rfl) Try.func8 (by kernel_rfl)
    (of_decide_eq_true (by kernel_rfl)) (by unfold Func.isWrapper; first | (rw [if_pos (by decide +kernel)]; kernel_rfl) | (rw [if_neg (by decide +kernel)]; exact ⟨rfl, rfl⟩))
    (fun os started H enc _ => lifted os started H enc)
#print axioms proved
end Go.Proofs.Ytilehlgnkfjcpaa.scalarNegs
