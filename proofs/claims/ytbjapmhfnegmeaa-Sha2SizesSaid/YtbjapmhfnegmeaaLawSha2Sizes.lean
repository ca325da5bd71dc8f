/- Whatever kind and whatever two strings come in, the call of Sha2Sizes returns true and leaves its arguments as they were. No condition. -/
import Derived.Test.YtbjapmhfnegmeaaShaO
import Derived.ProofKit
import Derived.OpenShut
import Derived.ShutString
import Derived.ChangeOld
namespace Go.Proofs.Ytbjapmhfnegmeaa.sha2Sizes
open Go Go.RowKit Go.ChangeShapes Go.WideShapes Go.ChangeAt Sha
open Go.ChangeMaps (open_string shut_string)
set_option linter.unusedVariables false

theorem all_eq (k : Int) (a b : ByteArray) : sumS k (a.data.toList ++ b.data.toList) = sumS k (a ++ b).data.toList := by simp
set_option maxRecDepth 100000 in
set_option maxHeartbeats 2000000 in
theorem walk (k : Int) (wk : (Lit.int .i64 k).wf = true) (a : ByteArray) (wa : a.size ≤ maxLen) (b : ByteArray) (wb : b.size ≤ maxLen) (w : World) :
    Calls Try.prog 6 #[.int .i64 k, .string a, .string b] w fun e w' => e = .returned (.bool true) ∧ Below w.heap.size w w' := by
  clear wa wb wk
  by_cases ha : 2000 < a.size
  · have ha' : (2000 : Int) < (a.size : Int) := by omega
    clear ha
    go_enter Try.func6, Try.ntmps6
    go_wp2_with fail
    refine (fixed_any _).mono ?_
    rintro e w1 ⟨rfl, b1⟩
    go_wp2
    go_ret
    exact ⟨rfl, b1⟩
  · by_cases hb : 2000 < b.size
    · have ha' : ¬ (2000 : Int) < (a.size : Int) := by omega
      have hb' : (2000 : Int) < (b.size : Int) := by omega
      clear ha hb
      go_enter Try.func6, Try.ntmps6
      go_wp2_with fail
      refine (fixed_any _).mono ?_
      rintro e w1 ⟨rfl, b1⟩
      go_wp2
      go_ret
      exact ⟨rfl, b1⟩
    · have ha' : ¬ (2000 : Int) < (a.size : Int) := by omega
      have hb' : ¬ (2000 : Int) < (b.size : Int) := by omega
      by_cases hk : Kind k
      · have h9 : ¬ 9223372036854775807 < a.size + b.size := by omega
        have hal : a.data.toList.length ≤ 2000 := by rw [size_list]; omega
        have hbl : b.data.toList.length ≤ 2000 := by rw [size_list]; omega
        have hsz := sumS_size k a.data.toList hk
        have hk2 : 0 ≤ k ∧ k ≤ 1 := by rcases hk with rfl | rfl <;> omega
        have N1 := Box.mk (fun w => newB_any k hk w)
        have O1 := Box.mk (fun w => oneB_any k hk (a ++ b) (by rw [ByteArray.size_append]; omega) w)
        have O2 := Box.mk (fun w => oneB_any k hk a (by omega) w)
        have AE := Box.mk (all_eq k a b)
        have HAL := Box.mk hal; have HBL := Box.mk hbl; have HSZ := Box.mk hsz
        clear ha hb hk hal hbl hsz
        go_enter Try.func6, Try.ntmps6
        go_wp2_with fail
        refine (N1.out _).mono ?_
        rintro e w1 ⟨p, rfl, hp, hs, k1⟩
        have B1 := Box.mk k1; have HS := Box.mk hs; clear k1 hs
        go_wp2_with fail
        refine (writeB_any k p [] a _ HS.out (by omega) (by simp)).mono ?_
        rintro e w2 ⟨rfl, hs2, hu2⟩
        rw [List.nil_append] at hs2
        have B2 := Box.mk (bthU B1.out hu2 hp); have HS2 := Box.mk hs2; clear hs2 hu2 B1 HS
        go_wp2_with fail
        refine (sumB_any k p _ _ HS2.out (by have := HAL.out; omega)).mono ?_
        rintro e w3 ⟨rfl, k3⟩
        have B3 := Box.mk (bth B2.out k3); have HS3 := Box.mk (HS2.out.below k3); clear k3 B2 HS2
        go_wp2_with fail
        refine (sumB_any k p _ _ HS3.out (by have := HAL.out; omega)).mono ?_
        rintro e w4 ⟨rfl, k4⟩
        have B4 := Box.mk (bth B3.out k4); have HS4 := Box.mk (HS3.out.below k4); clear k4 B3 HS3
        go_wp2_with fail
        refine (writeB_any k p _ b _ HS4.out (by omega) (by have := HAL.out; omega)).mono ?_
        rintro e w5 ⟨rfl, hs5, hu5⟩
        have B5 := Box.mk (bthU B4.out hu5 hp); have HS5 := Box.mk hs5; clear hs5 hu5 B4 HS4
        go_wp2_with fail
        refine (O1.out _).mono ?_
        rintro e w6 ⟨rfl, k6⟩
        have B6 := Box.mk (bth B5.out k6); have HS6 := Box.mk (HS5.out.below k6); clear k6 B5 HS5
        go_wp2_with fail
        refine (O2.out _).mono ?_
        rintro e w7 ⟨rfl, k7⟩
        have B7 := Box.mk (bth B6.out k7); have HS7 := Box.mk (HS6.out.below k7); clear k7 B6 HS6
        have hsz := HSZ.out
        try rw [← AE.out]
        generalize sumS k a.data.toList = S at hsz
        have q1 : (S.toList == S.toList) = true := by simp
        have r1 : 32 + 32 * k = IntKind.i64.wrap (32 + IntKind.i64.wrap (32 * k)) := by rw [IntKind.wrap_i64, IntKind.wrap_i64]; omega
        have R1 := Box.mk r1; clear r1
        go_wp2_with fail
        refine (fixed_any _).mono ?_
        rintro e w8 ⟨rfl, k8⟩
        have B8 := Box.mk (bth B7.out k8); have HS8 := Box.mk (HS7.out.below k8); clear k8 B7 HS7
        have q2 : (((S.size : Int)) == 32 + 32 * k) = true := by simpa using hsz
        go_wp2_with fail
        refine (sumB_any k p _ _ HS8.out (by rw [List.length_append]; have := HAL.out; have := HBL.out; omega)).mono ?_
        rintro e w9 ⟨rfl, k9⟩
        have B9 := Box.mk (bth B8.out k9); clear k9 B8 HS8
        generalize sumS k (a.data.toList ++ b.data.toList) = T
        have q3 : (T.toList == T.toList) = true := by simp
        go_wp2
        go_ret
        exact ⟨rfl, B9.out⟩
      · have N1 := Box.mk (fun w => new_no k w (fun e => hk (.inl e)) (fun e => hk (.inr e)))
        have k0 : (k != 0) = true := by rw [bne_iff_ne]; exact fun e => hk (.inl e)
        have k1 : (k != 1) = true := by rw [bne_iff_ne]; exact fun e => hk (.inr e)
        clear ha hb hk
        go_enter Try.func6, Try.ntmps6
        go_wp2_with fail
        refine (N1.out _).mono ?_
        rintro e w1 ⟨rfl, rfl⟩
        go_wp2_with fail
        refine (fixed_any _).mono ?_
        rintro e w8 ⟨rfl, k8⟩
        go_wp2
        go_ret
        exact ⟨rfl, k8⟩
theorem own : ownKnob Try.prog.godebug = none := by kernel_rfl
theorem laidOut : laidOutB Try.prog = true := by kernel_rfl
set_option maxRecDepth 100000 in
theorem lifted (os : Os) (started : os.Started) (H : Type) (enc : TypeId × Value → H) :
    ReturnsInHanded {} Try.checked os 6 .any (Rows.sha2SizesSpec.pre6 enc Try.prog Try.f6 Rows.sha2SizesRow.domain false) (Rows.sha2SizesSpec.post enc Try.prog Try.f6 false true false false) := by
  refine returnsInHanded_of_change (C := Try.checked) own started (by kernel_rfl) Try.func6
    (ChangeSpec.witness6 (enc := enc) (C := Try.checked) false ⟨#[], #[.int .i64 0, .string ⟨#[]⟩, .string ⟨#[]⟩], []⟩ 8 (by kernel_rfl) (by kernel_rfl) (by kernel_rfl) (by kernel_rfl)) ?_
  intro W base args ds gs before hval0 hW hcnd _
  have hval : ∀ (j : Nat) t v, Try.f6.params[j]? = some t → args[j]? = some v → Value.okWide Try.prog W .any base t v := hval0
  have hW' := hW
  obtain ⟨p, q, hA0, hV, rfl, hfz, hnd⟩ := hW
  have hA : DataW.TrodAll enc Try.prog W 0 (fun _ => true) true Try.f6.params.toList args.toList ds p := hA0
  rw [Try.params6] at hA hval
  obtain ⟨v0, vs0, d0, ds0, p0, q0, hargs, rfl, rfl, h0, r0⟩ := trodAll_cons hA
  obtain ⟨v1, vs1, d1, ds1, p1, q1, rfl, rfl, rfl, h1, r1⟩ := trodAll_cons r0
  obtain ⟨v2, vs2, d2, ds2, p2, q2, rfl, rfl, rfl, h2, r2⟩ := trodAll_cons r1
  obtain ⟨rfl, rfl, rfl⟩ := trodAll_nil r2
  obtain rfl : args = #[v0, v1, v2] := by cases args; simp_all
  obtain ⟨rfl, rfl⟩ := trodVars_none hV
  obtain ⟨s0, rfl, rfl, rfl, ws0⟩ := open_int Try.underlying3 (hval 0 3 v0 rfl rfl) h0
  obtain ⟨s1, rfl, rfl, rfl, ws1⟩ := open_string Try.underlying9 (hval 1 9 v1 rfl rfl) h1
  obtain ⟨s2, rfl, rfl, rfl, ws2⟩ := open_string Try.underlying9 (hval 2 9 v2 rfl rfl) h2
  clear hA0 hval0
  refine (walk s0 ws0 s1 ws1 s2 ws2 W).mono fun e W' ⟨he, bel⟩ => ?_
  subst he
  exact ⟨_, rfl, _, _, _, [], _, [], hW', trodAll_mk1 (shut_bool Try.underlying4 _), (trodAll_cons_mk (shut_int Try.underlying3 ws0) (trodAll_cons_mk (shut_string Try.underlying9 ws1) (trodAll_cons_mk (shut_string Try.underlying9 ws2) trodAll_mk0))), rfl, bel.frame _, fun h => by cases h⟩

theorem proved : Rows.Sha2SizesSaid :=
  OpenClaim.holds_of_wide 6 Try.f6 rfl rfl rfl rfl rfl rfl rfl ⟨rfl, rfl, rfl, rfl, rfl⟩ rfl rfl rfl rfl rfl (by kernel_rfl) Try.func6 (by kernel_rfl)
    (of_decide_eq_true (by kernel_rfl)) (by unfold Func.isWrapper; first | (rw [if_pos (by decide +kernel)]; kernel_rfl) | (rw [if_neg (by decide +kernel)]; exact ⟨rfl, rfl⟩))
    (fun os started H enc _ => lifted os started H enc)
#print axioms proved
end Go.Proofs.Ytbjapmhfnegmeaa.sha2Sizes
