/- Whatever two strings come in, the call of ScalarDoes returns true and leaves its arguments as they were. No condition. -/
import Derived.Test.YtilehlgnkfjcpaaScalarM
import Derived.ProofKit
import Derived.OpenShut
import Derived.ShutString
import Derived.ChangeOld
namespace Go.Proofs.Ytilehlgnkfjcpaa.scalarDoes
open Go Go.RowKit Go.ChangeShapes Go.WideShapes Go.ChangeAt
open Go.ChangeMaps (open_string shut_string)
set_option linter.unusedVariables false

set_option maxRecDepth 100000 in
set_option maxHeartbeats 1000000 in
theorem walk (a : ByteArray) (wa : a.size ≤ maxLen) (b : ByteArray) (wb : b.size ≤ maxLen) (w : World) :
    Calls Try.prog 4 #[.string a, .string b] w fun e w' => e = .returned (.bool true) ∧ Below w.heap.size w w' := by
  clear wa wb
  by_cases h : a.size = 32 ∧ b.size = 32
  · have CA := fun w => add_ok a b h.1 h.2 w
    have CB := fun w => (refAdd_any a b w).mono fun e w' ⟨he, hb2⟩ => (⟨_, ⟨rfl⟩, by rw [he, if_pos h], hb2⟩ : ∃ t, Box (t = sc (num a + num b)) ∧ e = Ending.returned (.tuple #[.string t, .int .i64 0]) ∧ Below w.heap.size w w')
    have CC := fun w => mul_ok a b h.1 h.2 w
    have CD := fun w => (refMul_any a b w).mono fun e w' ⟨he, hb2⟩ => (⟨_, ⟨rfl⟩, by rw [he, if_pos h], hb2⟩ : ∃ t, Box (t = sc (num a * num b)) ∧ e = Ending.returned (.tuple #[.string t, .int .i64 0]) ∧ Below w.heap.size w w')
    have CA := Box.mk CA; have CB := Box.mk CB; have CC := Box.mk CC; have CD := Box.mk CD
    clear h
    go_enter Try.func4, Try.ntmps4
    go_wp2_with fail
    refine (CA.out _).mono ?_
    rintro e w1 ⟨S, HS, rfl, k1⟩
    have h1 := k1; clear k1
    go_wp2_with fail
    refine (CB.out _).mono ?_
    rintro e w2 ⟨T, HT, rfl, k2⟩
    have h2 := bthen h1 k2; clear h1 k2
    go_wp2_with fail
    refine (CC.out _).mono ?_
    rintro e w3 ⟨U, HU, rfl, k3⟩
    have h3 := bthen h2 k3; clear h2 k3
    go_wp2_with fail
    refine (CD.out _).mono ?_
    rintro e w4 ⟨V, HV, rfl, k4⟩
    have h4 := bthen h3 k4; clear h3 k4
    have q1 : (S.toList == T.toList) = true := eqT (by rw [HS.out, HT.out])
    have q2 : (U.toList == V.toList) = true := eqT (by rw [HU.out, HV.out])
    go_wp2_with fail
    refine (fixed_any _).mono ?_
    rintro e w5 ⟨rfl, k5⟩
    have h5 := bthen h4 k5; clear h4 k5
    go_wp2
    go_ret
    exact ⟨rfl, h5⟩
  · have CA := fun w => (add_any a b w).mono fun e w' ⟨he, hb2⟩ => (⟨by rw [he, if_neg h], hb2⟩ : e = Ending.returned (.tuple #[.string ⟨#[]⟩, .int .i64 50]) ∧ Below w.heap.size w w')
    have CB := fun w => (refAdd_any a b w).mono fun e w' ⟨he, hb2⟩ => (⟨by rw [he, if_neg h], hb2⟩ : e = Ending.returned (.tuple #[.string ⟨#[]⟩, .int .i64 50]) ∧ Below w.heap.size w w')
    have CC := fun w => (mul_any a b w).mono fun e w' ⟨he, hb2⟩ => (⟨by rw [he, if_neg h], hb2⟩ : e = Ending.returned (.tuple #[.string ⟨#[]⟩, .int .i64 50]) ∧ Below w.heap.size w w')
    have CD := fun w => (refMul_any a b w).mono fun e w' ⟨he, hb2⟩ => (⟨by rw [he, if_neg h], hb2⟩ : e = Ending.returned (.tuple #[.string ⟨#[]⟩, .int .i64 50]) ∧ Below w.heap.size w w')
    have CA := Box.mk CA; have CB := Box.mk CB; have CC := Box.mk CC; have CD := Box.mk CD
    clear h
    go_enter Try.func4, Try.ntmps4
    go_wp2_with fail
    refine (CA.out _).mono ?_
    rintro e w1 ⟨rfl, k1⟩
    have h1 := k1; clear k1
    go_wp2_with fail
    refine (CB.out _).mono ?_
    rintro e w2 ⟨rfl, k2⟩
    have h2 := bthen h1 k2; clear h1 k2
    go_wp2_with fail
    refine (CC.out _).mono ?_
    rintro e w3 ⟨rfl, k3⟩
    have h3 := bthen h2 k3; clear h2 k3
    go_wp2_with fail
    refine (CD.out _).mono ?_
    rintro e w4 ⟨rfl, k4⟩
    have h4 := bthen h3 k4; clear h3 k4
    go_wp2_with fail
    refine (fixed_any _).mono ?_
    rintro e w5 ⟨rfl, k5⟩
    have h5 := bthen h4 k5; clear h4 k5
    go_wp2
    go_ret
    exact ⟨rfl, h5⟩
theorem own : ownKnob Try.prog.godebug = none := by kernel_rfl
theorem laidOut : laidOutB Try.prog = true := by kernel_rfl
set_option maxRecDepth 100000 in
theorem lifted (os : Os) (started : os.Started) (H : Type) (enc : TypeId × Value → H) :
    ReturnsInHanded {} Try.checked os 4 .any (Rows.scalarDoesSpec.pre6 enc Try.prog Try.f4 Rows.scalarDoesRow.domain false) (Rows.scalarDoesSpec.post enc Try.prog Try.f4 false true false false) := by
  refine returnsInHanded_of_change (C := Try.checked) own started (by kernel_rfl) Try.func4
    (ChangeSpec.witness6 (enc := enc) (C := Try.checked) false ⟨#[], #[.string ⟨#[]⟩, .string ⟨#[]⟩], []⟩ 8 (by kernel_rfl) (by kernel_rfl) (by kernel_rfl) (by kernel_rfl)) ?_
  intro W base args ds gs before hval0 hW hcnd _
  have hval : ∀ (j : Nat) t v, Try.f4.params[j]? = some t → args[j]? = some v → Value.okWide Try.prog W .any base t v := hval0
  have hW' := hW
  obtain ⟨p, q, hA0, hV, rfl, hfz, hnd⟩ := hW
  have hA : DataW.TrodAll enc Try.prog W 0 (fun _ => true) true Try.f4.params.toList args.toList ds p := hA0
  rw [Try.params4] at hA hval
  obtain ⟨v0, vs0, d0, ds0, p0, q0, hargs, rfl, rfl, h0, r0⟩ := trodAll_cons hA
  obtain ⟨v1, vs1, d1, ds1, p1, q1, rfl, rfl, rfl, h1, r1⟩ := trodAll_cons r0
  obtain ⟨rfl, rfl, rfl⟩ := trodAll_nil r1
  obtain rfl : args = #[v0, v1] := by cases args; simp_all
  obtain ⟨rfl, rfl⟩ := trodVars_none hV
  obtain ⟨s0, rfl, rfl, rfl, ws0⟩ := open_string Try.underlying9 (hval 0 9 v0 rfl rfl) h0
  obtain ⟨s1, rfl, rfl, rfl, ws1⟩ := open_string Try.underlying9 (hval 1 9 v1 rfl rfl) h1
  clear hA0 hval0
  refine (walk s0 ws0 s1 ws1 W).mono fun e W' ⟨he, bel⟩ => ?_
  subst he
  exact ⟨_, rfl, _, _, _, [], _, [], hW', trodAll_mk1 (shut_bool Try.underlying4 _), (trodAll_cons_mk (shut_string Try.underlying9 ws0) (trodAll_cons_mk (shut_string Try.underlying9 ws1) trodAll_mk0)), rfl, bel.frame _, fun h => by cases h⟩

theorem proved : Rows.ScalarDoesSaid :=
  OpenClaim.holds_of_wide 4 Try.f4 rfl rfl rfl rfl rfl rfl rfl ⟨rfl, rfl, rfl, rfl, rfl⟩ rfl rfl rfl rfl rfl (by kernel_rfl) Try.func4 (by kernel_rfl)
    (of_decide_eq_true (by kernel_rfl)) (by unfold Func.isWrapper; first | (rw [if_pos (by decide +kernel)]; kernel_rfl) | (rw [if_neg (by decide +kernel)]; exact ⟨rfl, rfl⟩))
    (fun os started H enc _ => lifted os started H enc)
#print axioms proved
end Go.Proofs.Ytilehlgnkfjcpaa.scalarDoes
