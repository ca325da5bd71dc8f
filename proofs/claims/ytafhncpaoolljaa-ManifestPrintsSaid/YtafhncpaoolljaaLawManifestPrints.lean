/- Whatever sums and whatever name come in, the call of ManifestPrints returns true and leaves its arguments as they were. No condition. -/
import Derived.Test.YtafhncpaoolljaaManV
import Derived.Test.YtafhncpaoolljaaManL
import Derived.ProofKit
import Derived.OpenShut
import Derived.ShutString
import Derived.ChangeOld
import Derived.HandedShaped
import Derived.Shelf.Vars
import Derived.Deep.DeepHandedRow
import Derived.Lib.LaidTab
import Derived.JoinedCond
namespace Go.Proofs.Ytafhncpaoolljaa.manifestPrints
set_option maxRecDepth 100000
open Go Go.RowKit Go.ChangeShapes Go.WideShapes Go.ChangeAt
open Go.ChangeMaps (open_string shut_string)
set_option linter.unusedVariables false

theorem prV_form2 (l : List SM) : ∃ (T : ByteArray) (C : Int), prV l = .tuple #[.string T, .int .i64 C] := ⟨_, _, rfl⟩
theorem fndV_form (l : List SM) (n : ByteArray) : ∃ (T : ByteArray) (C : Int), fndV l n = .tuple #[.string T, .int .i64 C] := by
  unfold fndV
  cases findM l n with
  | none => exact ⟨_, _, rfl⟩
  | some x => exact ⟨_, _, rfl⟩
set_option maxHeartbeats 2000000 in
theorem walk (w : World) (m : Int) (hm : w.cell? ⟨0, 0, none⟩ = some (.int .i64 m)) {v : Value} (l : List SM) (h : SumsS w v l) (s : ByteArray) (ws : s.size ≤ maxLen) : Calls Try.prog 3 #[v, .string s] w fun e w' => e = .returned (.bool true) ∧ Below w.heap.size w w' := by
  have H0 := Box.mk h
  have P1 := Box.mk (fun w h => print_any l v w h)
  have P2 := Box.mk (fun w h => rprint_any l v w h)
  have F1 := Box.mk (fun w h => find_any l s v w h)
  have F2 := Box.mk (fun w h => rfind_any l s v w h)
  obtain ⟨T, C, e1⟩ := prV_form2 l
  obtain ⟨U, D, e2⟩ := fndV_form l s
  rw [e1] at P1 P2
  rw [e2] at F1 F2
  have hT : (T.toList == T.toList) = true := by simp
  have hU : (U.toList == U.toList) = true := by simp
  have hC : (C == C) = true := by simp
  have hD : (D == D) = true := by simp
  have KM := Box.mk (show ∀ wx, Below w.heap.size w wx → wx.cell? ⟨0, 0, none⟩ = some (.int .i64 m) from fun wx h => (h.cell (p := ⟨0, 0, none⟩) (World.block_lt_of_cell? w _ hm)).trans hm)
  clear hm h e1 e2
  go_enter Try.func3, Try.ntmps3
  go_wp2_with fail
  refine (P1.out _ H0.out).mono ?_
  rintro e w1 ⟨rfl, hb⟩
  have B1 := Box.mk hb
  clear hb
  go_wp2_with fail
  refine (P2.out _ (H0.out.below B1.out)).mono ?_
  rintro e w2 ⟨rfl, hb⟩
  have B2 := Box.mk (B1.out.trans (hb.mono B1.out.size))
  clear hb
  go_wp2_with fail
  refine (F1.out _ (H0.out.below B2.out)).mono ?_
  rintro e w3 ⟨rfl, hb⟩
  have B3 := Box.mk (B2.out.trans (hb.mono B2.out.size))
  clear hb
  go_wp2_with fail
  refine (F2.out _ (H0.out.below B3.out)).mono ?_
  rintro e w4 ⟨rfl, rfl⟩
  go_wp2_with fail
  refine (fixed_any m _ (KM.out _ B3.out)).mono ?_
  rintro e w4 ⟨rfl, hb⟩
  have B4 := Box.mk (B3.out.trans (hb.mono B3.out.size))
  clear hb P1 P2 F1 F2
  go_wp2_with fail
  go_ret
  exact ⟨rfl, B4.out⟩
theorem own : ownKnob Try.prog.godebug = none := by kernel_rfl
theorem laidOut : laidOutB Try.prog = true := by kernel_rfl
theorem contract (H : Type) (enc : TypeId × Value → H) (W : World) (base : Nat) (args : Array Value) (ds gs : List (DataW H)) (before : List MemPlace)
    (hval0 : ∀ (j : Nat) t v, Try.f3.params[j]? = some t → args[j]? = some v → Value.okWide Try.prog W .any base t v)
    (hW : DataW.Whole enc Try.prog Try.f3.params.toList Rows.manifestPrintsSpec.vars false W args.toList ds gs before) (hsh : W.ShapedOpen Try.prog) :
    Calls Try.prog 3 args W fun e W' => ∃ v, e = .returned v ∧ Rows.manifestPrintsSpec.post enc Try.prog Try.f3 false true false false W args v W' := by
  have hval : ∀ (j : Nat) t v, Try.f3.params[j]? = some t → args[j]? = some v → Value.okWide Try.prog W .any base t v := hval0
  obtain ⟨m0, hm0⟩ := cell_of_shapedOpen_int (g := 0) (zero := #[.int .i64 0]) (t := 3) hsh (of_decide_eq_true (by kernel_rfl)) (by kernel_rfl) rfl (by kernel_rfl) (by kernel_rfl) Try.underlying3
  have hW' := hW
  obtain ⟨p, q, hA0, hV, rfl, hfz, hnd⟩ := hW
  have hA : DataW.TrodAll enc Try.prog W 0 (fun _ => true) true Try.f3.params.toList args.toList ds p := hA0
  rw [Try.params3] at hA hval
  obtain ⟨v0, vs0, d0, ds0, p0, q0, hargs, rfl, rfl, h0, r0⟩ := trodAll_cons hA
  obtain ⟨v1, vs1, d1, ds1, p1, q1, rfl, rfl, rfl, h1, r1⟩ := trodAll_cons r0
  obtain ⟨rfl, rfl, rfl⟩ := trodAll_nil r1
  obtain rfl : args = #[v0, v1] := by cases args; simp_all
  obtain ⟨rfl, rfl⟩ := trodVars_none hV
  obtain ⟨s1, rfl, rfl, rfl, ws1⟩ := open_string Try.underlying9 (hval 1 9 v1 rfl rfl) h1
  obtain ⟨l0, hl0⟩ := open_sums (hval 0 22 v0 rfl rfl) h0
  clear hA0 hval0
  refine (walk W m0 hm0 l0 hl0 s1 ws1).mono fun e W' ⟨he, bel⟩ => ?_
  subst he
  exact ⟨_, rfl, _, _, _, [], _, [], hW', trodAll_mk1 (shut_bool Try.underlying4 _), (trodAll_cons_mk (Below.trod laidOut (by kernel_rfl) (of_decide_eq_true (by kernel_rfl)) h0 bel (by obtain ⟨f, hf⟩ := h0; exact DataW.trod_lt _ _ _ _ hf)) (trodAll_cons_mk (shut_string Try.underlying9 ws1) trodAll_mk0)), rfl, bel.frame _, fun h => by cases h⟩
set_option maxRecDepth 100000 in
theorem lifted (os : Os) (started : os.Started) (H : Type) (enc : TypeId × Value → H) :
    ReturnsInHanded {} Try.checked os 3 .any (Rows.manifestPrintsSpec.pre6 enc Try.prog Try.f3 Rows.manifestPrintsRow.domain false) (Rows.manifestPrintsSpec.post enc Try.prog Try.f3 false true false false) := by
  refine returnsInHanded_of_change_shaped (C := Try.checked) own started (by kernel_rfl) Try.func3
    (ChangeSpec.witness6 (enc := enc) (C := Try.checked) false ⟨#[], #[.slice none 0 0, .string ⟨#[]⟩], []⟩ 8 (by kernel_rfl) (by kernel_rfl) (by kernel_rfl) (by kernel_rfl)) ?_
  intro W base args ds gs before hval hW _ _ hsh _
  exact contract H enc W base args ds gs before hval hW hsh
theorem proved : Rows.ManifestPrintsSaid :=
  OpenClaim.holds_of_wide 3 Try.f3 rfl rfl rfl rfl rfl rfl rfl ⟨rfl, rfl, rfl, rfl, rfl⟩ rfl rfl rfl rfl rfl (by kernel_rfl) Try.func3 (by kernel_rfl)
    (of_decide_eq_true (by kernel_rfl)) (by unfold Func.isWrapper; first | (rw [if_pos (by decide +kernel)]; kernel_rfl) | (rw [if_neg (by decide +kernel)]; exact ⟨rfl, rfl⟩))
    (fun os started H enc _ => lifted os started H enc)
#print axioms proved
end Go.Proofs.Ytafhncpaoolljaa.manifestPrints
