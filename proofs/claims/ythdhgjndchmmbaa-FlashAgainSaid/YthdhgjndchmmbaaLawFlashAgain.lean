/- FlashAgain. No condition. -/
import Derived.Test.YthdhgjndchmmbaaFlashI
import Derived.ProofKit
import Derived.OpenShut
import Derived.ShutString
import Derived.ChangeOld
namespace Go.Proofs.Ythdhgjndchmmbaa.flashAgain
open Go Go.RowKit Go.ChangeShapes Go.WideShapes Go.ChangeAt
open Go.ChangeMaps (open_string shut_string)
set_option linter.unusedVariables false

set_option maxRecDepth 100000 in
set_option maxHeartbeats 1000000 in
theorem walk (im : ByteArray) (wi : im.size ≤ maxLen) (s : ByteArray) (ws : s.size ≤ maxLen) (a : Int) (wa : (Lit.int .i64 a).wf = true) (w : World) :
    Calls Try.prog 5 #[.string im, .string s, .int .i64 a] w fun e w' => e = .returned (.bool true) ∧ Below w.heap.size w w' := by
  have ba : -9223372036854775808 ≤ a ∧ a ≤ 9223372036854775807 := bounds_i64 wa
  have hsm : s.size ≤ 9223372036854775807 := ws
  obtain ⟨r, hr, hrl, HFIT⟩ := fit_any im wi
  clear wi ws wa
  have HFIT := Box.mk HFIT; have HR := Box.mk hr; clear hr
  obtain ⟨s0, hs0⟩ : ∃ s0, s0 = FS.new r.data.toList := ⟨_, rfl⟩
  have ok0 : s0.Ok := hs0 ▸ FS.new_ok (by rw [Array.length_toList]; exact HR.out)
  have st0 : s0.Still := hs0 ▸ FS.new_still _
  have hn0 : s0.n = List.replicate s0.n.length 0 := by rw [hs0]; simp [FS.new]
  have A1 := st0.program a s.data.toList
  have ok1 := FS.program_ok ok0 a s.data.toList
  have P1 := fun p bb cb w h => program_any p bb cb s0 a s w h ok0 ba hsm
  obtain ⟨q1, hq1⟩ : ∃ q, q = s0.program a s.data.toList := ⟨_, rfl⟩
  rw [← hq1] at A1 ok1 
  simp only [← hq1] at P1
  have A2 := A1.2.2.2.program a s.data.toList
  have ok2 := FS.program_ok ok1 a s.data.toList
  have P2 := fun p bb cb w h => program_any p bb cb q1.1 a s w h ok1 ba hsm
  obtain ⟨q2, hq2⟩ : ∃ q, q = q1.1.program a s.data.toList := ⟨_, rfl⟩
  rw [← hq2] at A2 ok2
  simp only [← hq2] at P2
  have A3 := A2.2.2.2.erase 0 (by have := ok2.few; omega)
  have ok3 := FS.erase_ok ok2 ((0 : Nat) : Int)
  have P3 := fun p bb cb w h => erase_any p bb cb q2.1 ((0 : Nat) : Int) w h ok2
  obtain ⟨q3, hq3⟩ : ∃ q, q = q2.1.erase ((0 : Nat) : Int) := ⟨_, rfl⟩
  rw [← hq3] at A3 ok3
  simp only [← hq3] at P3
  have A4 := A3.2.2.2.erase 0 (by have := ok3.few; omega)
  have ok4 := FS.erase_ok ok3 ((0 : Nat) : Int)
  have P4 := fun p bb cb w h => erase_any p bb cb q3.1 ((0 : Nat) : Int) w h ok3
  obtain ⟨q4, hq4⟩ : ∃ q, q = q3.1.erase ((0 : Nat) : Int) := ⟨_, rfl⟩
  rw [← hq4] at A4 ok4
  simp only [← hq4] at P4
  have e1 : q2.2 = q1.2 := by rw [A1.1, A2.1, A1.2.1, progS_length]
  have e2 : q2.1.b = q1.1.b := by rw [A2.2.1, A1.2.1, progS_twice]
  have e3 : q3.2 = 0 := A3.1
  have e4 : q4.2 = 0 := A4.1
  have e5 : q4.1.b = q3.1.b := by rw [A4.2.1, A3.2.1, eraseUpto_twice]
  have e6 : q4.1.count 0 = 2 := count_two q2.1 q3.1 q4.1 s0.n.length ok0.few.1 (by rw [A2.2.2.1, A1.2.2.1]; exact hn0) A3.2.2.1 A4.2.2.1
  have I1 := fun p bb cb w h => image_any p bb cb q1.1 w h
  have I2 := fun p bb cb w h => image_any p bb cb q2.1 w h
  have I3 := fun p bb cb w h => image_any p bb cb q3.1 w h
  have I4 := fun p bb cb w h => image_any p bb cb q4.1 w h
  have C4 := fun p bb cb w h => count_any p bb cb q4.1 0 w h ok4
  rw [e6] at C4
  rw [e2] at I2
  rw [e5] at I4
  rw [e1] at P2
  rw [e3] at P3
  rw [e4] at P4
  obtain ⟨i1, hi1⟩ : ∃ i : ByteArray, i = ⟨q1.1.b.toArray⟩ := ⟨_, rfl⟩
  obtain ⟨i3, hi3⟩ : ∃ i : ByteArray, i = ⟨q3.1.b.toArray⟩ := ⟨_, rfl⟩
  rw [← hi1] at I1 I2
  rw [← hi3] at I3 I4
  have P1 := Box.mk P1; have P2 := Box.mk P2; have P3 := Box.mk P3; have P4 := Box.mk P4; have C4 := Box.mk C4
  have I1 := Box.mk I1; have I2 := Box.mk I2; have I3 := Box.mk I3; have I4 := Box.mk I4; have HS := Box.mk hs0
  clear A1 A2 A3 A4 hq1 hq2 hq3 hq4 e1 e2 e3 e4 e5 e6 hi1 hi3 hn0 st0 ok0 ok1 ok2 ok3 ok4 ba hsm hs0
  go_enter Try.func5, Try.ntmps5
  go_wp2_with fail
  refine (HFIT.out _).mono ?_
  rintro e w1 ⟨rfl, hb1⟩
  go_wp2_with fail
  refine (open_yes r _ HR.out).mono ?_
  rintro e w2 ⟨p, bb, cb, rfl, hf, hp, hbb, hcb, hb2⟩
  have F0 : Box (Fl 63 w2 p bb cb s0) := ⟨HS.out ▸ hf⟩
  have B2 := Box.mk (hb1.trans (hb2.mono hb1.size))
  have hz1 := hb1.size
  have hp' : w.heap.size ≤ p := by omega
  have hb' : w.heap.size ≤ bb := by omega
  have hc' : w.heap.size ≤ cb := by omega
  clear hf hb1 hb2 hp hbb hcb hz1
  go_wp2_with fail
  refine (P1.out p bb cb _ F0.out).mono ?_
  rintro e w3 ⟨rfl, hf, hu⟩
  have F1 := Box.mk hf; have U1 := Box.mk hu; clear hf hu
  go_wp2_with fail
  refine (I1.out p bb cb _ F1.out).mono ?_
  rintro e w4 ⟨rfl, rfl⟩
  go_wp2_with fail
  refine (P2.out p bb cb _ F1.out).mono ?_
  rintro e w4 ⟨rfl, hf, hu⟩
  have F2 := Box.mk hf; have U2 := Box.mk hu; clear hf hu
  go_wp2_with fail
  refine (I2.out p bb cb _ F2.out).mono ?_
  rintro e w5 ⟨rfl, rfl⟩
  go_wp2_with fail
  refine (P3.out p bb cb _ F2.out).mono ?_
  rintro e w5 ⟨rfl, hf, hu⟩
  have F3 := Box.mk hf; have U3 := Box.mk hu; clear hf hu
  go_wp2_with fail
  refine (I3.out p bb cb _ F3.out).mono ?_
  rintro e w6 ⟨rfl, rfl⟩
  go_wp2_with fail
  refine (P4.out p bb cb _ F3.out).mono ?_
  rintro e w6 ⟨rfl, hf, hu⟩
  have F4 := Box.mk hf; have U4 := Box.mk hu; clear hf hu
  go_wp2_with fail
  refine (fixed_any _).mono ?_
  rintro e w7 ⟨rfl, hb⟩
  have F5 := Box.mk (F4.out.upd (S := []) (Upd.of_below hb) (by simp) (by simp) (by simp))
  have U5 := Box.mk (Upd.of_below (S := []) hb); clear hb
  go_wp2_with fail
  refine (I4.out p bb cb _ F5.out).mono ?_
  rintro e w8 ⟨rfl, rfl⟩
  go_wp2_with fail
  refine (C4.out p bb cb _ F5.out).mono ?_
  rintro e w9 ⟨rfl, rfl⟩
  go_wp2
  go_ret
  refine ⟨rfl, ?_⟩
  refine Upd.below B2.out ((((((U1.out.mono (T := [p, bb, cb]) (by simp)).trans (U2.out.mono (by simp))).trans U3.out).trans U4.out).trans (U5.out.mono (by simp)))) ?_ B2.out.size
  intro i hi
  simp only [List.mem_cons, List.not_mem_nil, or_false] at hi
  rcases hi with rfl | rfl | rfl <;> assumption
theorem own : ownKnob Try.prog.godebug = none := by kernel_rfl
theorem laidOut : laidOutB Try.prog = true := by kernel_rfl
set_option maxRecDepth 100000 in
theorem lifted (os : Os) (started : os.Started) (H : Type) (enc : TypeId × Value → H) :
    ReturnsInHanded {} Try.checked os 5 .any (Rows.flashAgainSpec.pre6 enc Try.prog Try.f5 Rows.flashAgainRow.domain false) (Rows.flashAgainSpec.post enc Try.prog Try.f5 false true false false) := by
  refine returnsInHanded_of_change (C := Try.checked) own started (by kernel_rfl) Try.func5
    (ChangeSpec.witness6 (enc := enc) (C := Try.checked) false ⟨#[], #[.string ⟨#[]⟩, .string ⟨#[]⟩, .int .i64 0], []⟩ 8 (by kernel_rfl) (by kernel_rfl) (by kernel_rfl) (by kernel_rfl)) ?_
  intro W base args ds gs before hval0 hW hcnd _
  have hval : ∀ (j : Nat) t v, Try.f5.params[j]? = some t → args[j]? = some v → Value.okWide Try.prog W .any base t v := hval0
  have hW' := hW
  obtain ⟨p, q, hA0, hV, rfl, hfz, hnd⟩ := hW
  have hA : DataW.TrodAll enc Try.prog W 0 (fun _ => true) true Try.f5.params.toList args.toList ds p := hA0
  rw [Try.params5] at hA hval
  obtain ⟨v0, vs0, d0, ds0, p0, q0, hargs, rfl, rfl, h0, r0⟩ := trodAll_cons hA
  obtain ⟨v1, vs1, d1, ds1, p1, q1, rfl, rfl, rfl, h1, r1⟩ := trodAll_cons r0
  obtain ⟨v2, vs2, d2, ds2, p2, q2, rfl, rfl, rfl, h2, r2⟩ := trodAll_cons r1
  obtain ⟨rfl, rfl, rfl⟩ := trodAll_nil r2
  obtain rfl : args = #[v0, v1, v2] := by cases args; simp_all
  obtain ⟨rfl, rfl⟩ := trodVars_none hV
  obtain ⟨s0, rfl, rfl, rfl, ws0⟩ := open_string Try.underlying9 (hval 0 9 v0 rfl rfl) h0
  obtain ⟨s1, rfl, rfl, rfl, ws1⟩ := open_string Try.underlying9 (hval 1 9 v1 rfl rfl) h1
  obtain ⟨s2, rfl, rfl, rfl, ws2⟩ := open_int Try.underlying3 (hval 2 3 v2 rfl rfl) h2
  clear hA0 hval0
  refine (walk s0 ws0 s1 ws1 s2 ws2 W).mono fun e W' ⟨he, bel⟩ => ?_
  subst he
  exact ⟨_, rfl, _, _, _, [], _, [], hW', trodAll_mk1 (shut_bool Try.underlying4 _), (trodAll_cons_mk (shut_string Try.underlying9 ws0) (trodAll_cons_mk (shut_string Try.underlying9 ws1) (trodAll_cons_mk (shut_int Try.underlying3 ws2) trodAll_mk0))), rfl, bel.frame _, fun h => by cases h⟩

theorem proved : Rows.FlashAgainSaid :=
  OpenClaim.holds_of_wide 5 Try.f5 rfl rfl rfl rfl rfl rfl rfl ⟨rfl, rfl, rfl, rfl, rfl⟩ rfl rfl rfl rfl rfl (by kernel_rfl) Try.func5 (by kernel_rfl)
    (of_decide_eq_true (by kernel_rfl)) (by unfold Func.isWrapper; first | (rw [if_pos (by decide +kernel)]; kernel_rfl) | (rw [if_neg (by decide +kernel)]; exact ⟨rfl, rfl⟩))
    (fun os started H enc _ => lifted os started H enc)
#print axioms proved
end Go.Proofs.Ythdhgjndchmmbaa.flashAgain
