/- Whatever three strings come in, the call of ScalarRules returns true and leaves its arguments as they were. No condition. -/
import Derived.Test.YtilehlgnkfjcpaaScalarM
import Derived.ProofKit
import Derived.OpenShut
import Derived.ShutString
import Derived.ChangeOld
namespace Go.Proofs.Ytilehlgnkfjcpaa.scalarRules
open Go Go.RowKit Go.ChangeShapes Go.WideShapes Go.ChangeAt
open Go.ChangeMaps (open_string shut_string)
set_option linter.unusedVariables false

set_option maxRecDepth 100000 in
set_option maxHeartbeats 2000000 in
theorem walk (a : ByteArray) (wa : a.size ≤ maxLen) (b : ByteArray) (wb : b.size ≤ maxLen) (c : ByteArray) (wc : c.size ≤ maxLen) (w : World) :
    Calls Try.prog 5 #[.string a, .string b, .string c] w fun e w' => e = .returned (.bool true) ∧ Below w.heap.size w w' := by
  clear wa wb wc
  by_cases ha : a.size = 32
  · by_cases hb : b.size = 32
    · by_cases hc : c.size = 32
      · have ha' : ((a.size : Int) != 32) = false := by simp; omega
        have hb' : ((b.size : Int) != 32) = false := by simp; omega
        have hc' : ((c.size : Int) != 32) = false := by simp; omega
        have HA := Box.mk ha; have HB := Box.mk hb; have HC := Box.mk hc; clear ha hb hc
        go_enter Try.func5, Try.ntmps5
        go_wp2_with fail
        refine (fixed_any _).mono ?_
        rintro e w1 ⟨rfl, k1⟩
        have h1 := k1; clear k1
        go_wp2_with fail
        refine (add_ok a b HA.out HB.out _).mono ?_
        rintro e w2 ⟨AB, HAB, rfl, k2⟩
        have h2 := bthen h1 k2; clear h1 k2
        go_wp2_with fail
        refine (add_ok b a HB.out HA.out _).mono ?_
        rintro e w3 ⟨BA, HBA, rfl, k3⟩
        have h3 := bthen h2 k3; clear h2 k3
        go_wp2_with fail
        refine (add_ok b c HB.out HC.out _).mono ?_
        rintro e w4 ⟨BC, HBC, rfl, k4⟩
        have h4 := bthen h3 k4; clear h3 k4
        go_wp2_with fail
        refine (add_ok AB c (by rw [HAB.out, sc_size]) HC.out _).mono ?_
        rintro e w5 ⟨X, HX, rfl, k5⟩
        have h5 := bthen h4 k5; clear h4 k5
        go_wp2_with fail
        refine (add_ok a BC HA.out (by rw [HBC.out, sc_size]) _).mono ?_
        rintro e w6 ⟨Y, HY, rfl, k6⟩
        have h6 := bthen h5 k6; clear h5 k6
        go_wp2_with fail
        refine (mul_ok a b HA.out HB.out _).mono ?_
        rintro e w7 ⟨PAB, HPAB, rfl, k7⟩
        have h7 := bthen h6 k7; clear h6 k7
        go_wp2_with fail
        refine (mul_ok b a HB.out HA.out _).mono ?_
        rintro e w8 ⟨PBA, HPBA, rfl, k8⟩
        have h8 := bthen h7 k8; clear h7 k8
        go_wp2_with fail
        refine (mul_ok b c HB.out HC.out _).mono ?_
        rintro e w9 ⟨PBC, HPBC, rfl, k9⟩
        have h9 := bthen h8 k9; clear h8 k9
        go_wp2_with fail
        refine (mul_ok a c HA.out HC.out _).mono ?_
        rintro e w10 ⟨PAC, HPAC, rfl, k10⟩
        have h10 := bthen h9 k10; clear h9 k10
        go_wp2_with fail
        refine (mul_ok PAB c (by rw [HPAB.out, sc_size]) HC.out _).mono ?_
        rintro e w11 ⟨U, HU, rfl, k11⟩
        have h11 := bthen h10 k11; clear h10 k11
        go_wp2_with fail
        refine (mul_ok a PBC HA.out (by rw [HPBC.out, sc_size]) _).mono ?_
        rintro e w12 ⟨V, HV, rfl, k12⟩
        have h12 := bthen h11 k12; clear h11 k12
        go_wp2_with fail
        refine (mul_ok a BC HA.out (by rw [HBC.out, sc_size]) _).mono ?_
        rintro e w13 ⟨LL, HLL, rfl, k13⟩
        have h13 := bthen h12 k13; clear h12 k13
        go_wp2_with fail
        refine (add_ok PAB PAC (by rw [HPAB.out, sc_size]) (by rw [HPAC.out, sc_size]) _).mono ?_
        rintro e w14 ⟨RR, HRR, rfl, k14⟩
        have h14 := bthen h13 k14; clear h13 k14
        have q1 : (AB.toList == BA.toList) = true := eqT (by rw [HAB.out, HBA.out, Nat.add_comm])
        have q2 : (X.toList == Y.toList) = true := eqT (by rw [HX.out, HY.out, HAB.out, HBC.out, num_sc, num_sc]; exact sc_congr (by rw [Nat.mod_add_mod, Nat.add_mod_mod, Nat.add_assoc]))
        have q3 : (PAB.toList == PBA.toList) = true := eqT (by rw [HPAB.out, HPBA.out, Nat.mul_comm])
        have q4 : (U.toList == V.toList) = true := eqT (by rw [HU.out, HV.out, HPAB.out, HPBC.out, num_sc, num_sc]; exact sc_congr (by rw [Nat.mod_mul_mod, Nat.mul_mod_mod, Nat.mul_assoc]))
        have q5 : (LL.toList == RR.toList) = true := eqT (by rw [HLL.out, HRR.out, HBC.out, HPAB.out, HPAC.out, num_sc, num_sc, num_sc]; exact sc_congr (by rw [Nat.mul_mod_mod, Nat.mod_add_mod, Nat.add_mod_mod, Nat.mul_add]))
        go_wp2_with fail
        refine (is_yes X (by rw [HX.out, sc_size, num_sc]; exact ⟨rfl, Nat.mod_lt _ ordL_pos⟩) _).mono ?_
        rintro e w15 ⟨rfl, k15⟩
        have h15 := bthen h14 k15; clear h14 k15
        go_wp2_with fail
        refine (is_yes U (by rw [HU.out, sc_size, num_sc]; exact ⟨rfl, Nat.mod_lt _ ordL_pos⟩) _).mono ?_
        rintro e w16 ⟨rfl, k16⟩
        have h16 := bthen h15 k16; clear h15 k16
        go_wp2
        go_ret
        exact ⟨rfl, h16⟩
      · have ha' : ((a.size : Int) != 32) = false := by simp; omega
        have hb' : ((b.size : Int) != 32) = false := by simp; omega
        have hc' : ((c.size : Int) != 32) = true := by simp; omega
        clear ha hb hc
        go_enter Try.func5, Try.ntmps5
        go_wp2_with fail
        refine (fixed_any _).mono ?_
        rintro e w1 ⟨rfl, k1⟩
        have h1 := k1; clear k1
        go_wp2_with fail
        refine (fixed_any _).mono ?_
        rintro e w2 ⟨rfl, k2⟩
        have h2 := bthen h1 k2; clear h1 k2
        go_wp2
        go_ret
        exact ⟨rfl, h2⟩
    · have ha' : ((a.size : Int) != 32) = false := by simp; omega
      have hb' : ((b.size : Int) != 32) = true := by simp; omega
      clear ha hb
      go_enter Try.func5, Try.ntmps5
      go_wp2_with fail
      refine (fixed_any _).mono ?_
      rintro e w1 ⟨rfl, k1⟩
      have h1 := k1; clear k1
      go_wp2_with fail
      refine (fixed_any _).mono ?_
      rintro e w2 ⟨rfl, k2⟩
      have h2 := bthen h1 k2; clear h1 k2
      go_wp2
      go_ret
      exact ⟨rfl, h2⟩
  · have ha' : ((a.size : Int) != 32) = true := by simp; omega
    clear ha
    go_enter Try.func5, Try.ntmps5
    go_wp2_with fail
    refine (fixed_any _).mono ?_
    rintro e w1 ⟨rfl, k1⟩
    have h1 := k1; clear k1
    go_wp2_with fail
    refine (fixed_any _).mono ?_
    rintro e w2 ⟨rfl, k2⟩
    have h2 := bthen h1 k2; clear h1 k2
    go_wp2
    go_ret
    exact ⟨rfl, h2⟩
theorem own : ownKnob Try.prog.godebug = none := by kernel_rfl
theorem laidOut : laidOutB Try.prog = true := by kernel_rfl
set_option maxRecDepth 100000 in
theorem lifted (os : Os) (started : os.Started) (H : Type) (enc : TypeId × Value → H) :
    ReturnsInHanded {} Try.checked os 5 .any (Rows.scalarRulesSpec.pre6 enc Try.prog Try.f5 Rows.scalarRulesRow.domain false) (Rows.scalarRulesSpec.post enc Try.prog Try.f5 false true false false) := by
  refine returnsInHanded_of_change (C := Try.checked) own started (by kernel_rfl) Try.func5
    (ChangeSpec.witness6 (enc := enc) (C := Try.checked) false ⟨#[], #[.string ⟨#[]⟩, .string ⟨#[]⟩, .string ⟨#[]⟩], []⟩ 8 (by kernel_rfl) (by kernel_rfl) (by kernel_rfl) (by kernel_rfl)) ?_
  intro W base args ds gs before hval0 hW hcnd _
  have hval : ∀ (j : Nat) t v, Try.f5.params[j]? = some t → args[j]? = some v → Value.okWide Try.prog W .any base t v := hval0
  have hW' := hW
  obtain ⟨p, q, hA0, hV, rfl, hfz, hnd⟩ := hW
  have hA : DataW.TrodAll enc Try.prog W 0 (fun _ => true) true Try.f5.params.toList args.toList ds p := hA0
  rw [Try.params5] at hA hval
  obtain ⟨v0, vs0, d0, ds0, p0, q0, hargs, rfl, rfl, h0, r0⟩ := trodAll_cons hA
  obtain ⟨v1, vs1, d1, ds1, p1, q1, rfl, rfl, rfl, h1, r1⟩ := trodAll_cons r0
  obtain ⟨v2, vs2, d2, ds2, p2, q2, rfl, rfl, rfl, h2, r2⟩ := trodAll_cons r1
  obtain ⟨rfl, rfl, rfl⟩ := trodAll_nil r2
  obtain rfl : args = #[v0, v1, v2] := by cases args; simp_all
  obtain ⟨rfl, rfl⟩ := trodVars_none hV
  obtain ⟨s0, rfl, rfl, rfl, ws0⟩ := open_string Try.underlying9 (hval 0 9 v0 rfl rfl) h0
  obtain ⟨s1, rfl, rfl, rfl, ws1⟩ := open_string Try.underlying9 (hval 1 9 v1 rfl rfl) h1
  obtain ⟨s2, rfl, rfl, rfl, ws2⟩ := open_string Try.underlying9 (hval 2 9 v2 rfl rfl) h2
  clear hA0 hval0
  refine (walk s0 ws0 s1 ws1 s2 ws2 W).mono fun e W' ⟨he, bel⟩ => ?_
  subst he
  exact ⟨_, rfl, _, _, _, [], _, [], hW', trodAll_mk1 (shut_bool Try.underlying4 _), (trodAll_cons_mk (shut_string Try.underlying9 ws0) (trodAll_cons_mk (shut_string Try.underlying9 ws1) (trodAll_cons_mk (shut_string Try.underlying9 ws2) trodAll_mk0))), rfl, bel.frame _, fun h => by cases h⟩

theorem proved : Rows.ScalarRulesSaid :=
  OpenClaim.holds_of_wide 5 Try.f5 rfl rfl rfl rfl rfl rfl rfl ⟨rfl, rfl, rfl, rfl, rfl⟩ rfl rfl rfl rfl rfl (by kernel_rfl) Try.func5 (by kernel_rfl)
    (of_decide_eq_true (by kernel_rfl)) (by unfold Func.isWrapper; first | (rw [if_pos (by decide +kernel)]; kernel_rfl) | (rw [if_neg (by decide +kernel)]; exact ⟨rfl, rfl⟩))
    (fun os started H enc _ => lifted os started H enc)
#print axioms proved
end Go.Proofs.Ytilehlgnkfjcpaa.scalarRules
