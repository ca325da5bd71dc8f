/- Whatever string comes in, the call of ScalarBack returns true and leaves its argument as it was. No condition. -/
import Derived.Test.YtilehlgnkfjcpaaScalarM
import Derived.ProofKit
import Derived.OpenShut
import Derived.ShutString
import Derived.ChangeOld
namespace Go.Proofs.Ytilehlgnkfjcpaa.scalarBack
open Go Go.RowKit Go.ChangeShapes Go.WideShapes Go.ChangeAt
open Go.ChangeMaps (open_string shut_string)
set_option linter.unusedVariables false

set_option maxRecDepth 100000 in
set_option maxHeartbeats 2000000 in
theorem walk (s : ByteArray) (ws : s.size ≤ maxLen) (w : World) :
    Calls Try.prog 6 #[.string s] w fun e w' => e = .returned (.bool true) ∧ Below w.heap.size w w' := by
  clear ws
  by_cases h : s.size ≤ 64
  · go_enter Try.func6, Try.ntmps6
    go_wp2_with fail
    refine (reduce_ok s h _).mono ?_
    rintro e w1 ⟨A, HA, rfl, k1⟩
    have h1 := k1; clear k1
    go_wp2_with fail
    refine (fixed_any _).mono ?_
    rintro e w2 ⟨rfl, k2⟩
    have h2 := bthen h1 k2; clear h1 k2
    go_wp2_with fail
    refine (reduce_ok A (by rw [HA.out, sc_size]; omega) _).mono ?_
    rintro e w3 ⟨B, HB, rfl, k3⟩
    have h3 := bthen h2 k3; clear h2 k3
    go_wp2_with fail
    refine (lnum_any 0 (by omega) _).mono ?_
    rintro e w4 ⟨Z, HZ, rfl, k4⟩
    have h4 := bthen h3 k4; clear h3 k4
    go_wp2_with fail
    refine (add_ok A Z (by rw [HA.out, sc_size]) (by rw [HZ.out, sc_size]) _).mono ?_
    rintro e w5 ⟨C, HC, rfl, k5⟩
    have h5 := bthen h4 k5; clear h4 k5
    go_wp2_with fail
    refine (lnum_any 1 (by omega) _).mono ?_
    rintro e w6 ⟨O, HO, rfl, k6⟩
    have h6 := bthen h5 k6; clear h5 k6
    go_wp2_with fail
    refine (mul_ok A O (by rw [HA.out, sc_size]) (by rw [HO.out, sc_size]) _).mono ?_
    rintro e w7 ⟨D, HD, rfl, k7⟩
    have h7 := bthen h6 k7; clear h6 k7
    have e1 : num A < ordL := by rw [HA.out, num_sc]; exact Nat.mod_lt _ ordL_pos
    have eA : A = sc (num A) := ((sc_num (by rw [HA.out, sc_size])).2 e1).symm
    have q1 : (B.toList == A.toList) = true := eqT (by rw [HB.out]; exact eA.symm)
    have q2 : (C.toList == A.toList) = true := eqT (by rw [HC.out, HZ.out, num_sc]; exact eA.symm)
    have q3 : (D.toList == A.toList) = true := eqT (by rw [HD.out, HO.out, num_sc, show Int.toNat 1 % ordL = 1 from by unfold ordL; rfl, Nat.mul_one]; exact eA.symm)
    have E1 := Box.mk e1; clear e1 eA
    go_wp2_with fail
    refine (is_yes A ⟨by rw [HA.out, sc_size], E1.out⟩ _).mono ?_
    rintro e w8 ⟨rfl, k8⟩
    have h8 := bthen h7 k8; clear h7 k8
    by_cases hs : s.size = 32 ∧ num s < ordL
    · have q4 : (A.toList == s.toList) = true := eqT (by rw [HA.out]; exact (sc_num hs.1).2 hs.2)
      have HS := Box.mk hs; clear hs
      go_wp2_with fail
      refine (is_yes s HS.out _).mono ?_
      rintro e w9 ⟨rfl, k9⟩
      have h9 := bthen h8 k9; clear h8 k9
      go_wp2
      go_ret
      exact ⟨rfl, h9⟩
    · have HS := Box.mk hs; clear hs
      go_wp2_with fail
      refine (is_no s HS.out _).mono ?_
      rintro e w9 ⟨rfl, k9⟩
      have h9 := bthen h8 k9; clear h8 k9
      go_wp2
      go_ret
      exact ⟨rfl, h9⟩
  · have h64 : (64 : Int) < (s.size : Int) := by omega
    have q0 : ((⟨#[]⟩ : ByteArray).toList == (⟨#[]⟩ : ByteArray).toList) = true := eqT rfl
    go_enter Try.func6, Try.ntmps6
    go_wp2_with fail
    refine (reduce_no s (by omega) _).mono ?_
    rintro e w1 ⟨rfl, k1⟩
    have h1 := k1; clear k1
    go_wp2_with fail
    refine (fixed_any _).mono ?_
    rintro e w2 ⟨rfl, k2⟩
    have h2 := bthen h1 k2; clear h1 k2
    go_wp2_with fail
    refine (fixed_any _).mono ?_
    rintro e w3 ⟨rfl, k3⟩
    have h3 := bthen h2 k3; clear h2 k3
    go_wp2
    go_ret
    exact ⟨rfl, h3⟩
theorem own : ownKnob Try.prog.godebug = none := by kernel_rfl
theorem laidOut : laidOutB Try.prog = true := by kernel_rfl
set_option maxRecDepth 100000 in
theorem lifted (os : Os) (started : os.Started) (H : Type) (enc : TypeId × Value → H) :
    ReturnsInHanded {} Try.checked os 6 .any (Rows.scalarBackSpec.pre6 enc Try.prog Try.f6 Rows.scalarBackRow.domain false) (Rows.scalarBackSpec.post enc Try.prog Try.f6 false true false false) := by
  refine returnsInHanded_of_change (C := Try.checked) own started (by kernel_rfl) Try.func6
    (ChangeSpec.witness6 (enc := enc) (C := Try.checked) false ⟨#[], #[.string ⟨#[]⟩], []⟩ 8 (by kernel_rfl) (by kernel_rfl) (by kernel_rfl) (by kernel_rfl)) ?_
  intro W base args ds gs before hval0 hW hcnd _
  have hval : ∀ (j : Nat) t v, Try.f6.params[j]? = some t → args[j]? = some v → Value.okWide Try.prog W .any base t v := hval0
  have hW' := hW
  obtain ⟨p, q, hA0, hV, rfl, hfz, hnd⟩ := hW
  have hA : DataW.TrodAll enc Try.prog W 0 (fun _ => true) true Try.f6.params.toList args.toList ds p := hA0
  rw [Try.params6] at hA hval
  obtain ⟨v0, vs0, d0, ds0, p0, q0, hargs, rfl, rfl, h0, r0⟩ := trodAll_cons hA
  obtain ⟨rfl, rfl, rfl⟩ := trodAll_nil r0
  obtain rfl : args = #[v0] := by cases args; simp_all
  obtain ⟨rfl, rfl⟩ := trodVars_none hV
  obtain ⟨s0, rfl, rfl, rfl, ws0⟩ := open_string Try.underlying9 (hval 0 9 v0 rfl rfl) h0
  clear hA0 hval0
  refine (walk s0 ws0 W).mono fun e W' ⟨he, bel⟩ => ?_
  subst he
  exact ⟨_, rfl, _, _, _, [], _, [], hW', trodAll_mk1 (shut_bool Try.underlying4 _), (trodAll_cons_mk (shut_string Try.underlying9 ws0) trodAll_mk0), rfl, bel.frame _, fun h => by cases h⟩

theorem proved : Rows.ScalarBackSaid :=
  OpenClaim.holds_of_wide 6 Try.f6 rfl rfl rfl rfl rfl rfl rfl ⟨rfl, rfl, rfl, rfl, rfl⟩ rfl rfl rfl rfl rfl (by kernel_rfl) Try.func6 (by kernel_rfl)
    (of_decide_eq_true (by kernel_rfl)) (by unfold Func.isWrapper; first | (rw [if_pos (by decide +kernel)]; kernel_rfl) | (rw [if_neg (by decide +kernel)]; exact ⟨rfl, rfl⟩))
    (fun os started H enc _ => lifted os started H enc)
#print axioms proved
end Go.Proofs.Ytilehlgnkfjcpaa.scalarBack
