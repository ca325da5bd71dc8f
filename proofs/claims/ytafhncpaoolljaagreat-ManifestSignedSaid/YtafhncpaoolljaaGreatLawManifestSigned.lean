/- Whatever seed, text and signature come in, the call of ManifestSigned returns true and leaves its arguments as they were. No condition. -/
import Derived.Test.YtafhncpaoolljaaGreatM40
import Derived.ProofKit
import Derived.OpenShut
import Derived.ShutString
import Derived.ChangeOld
import Derived.HandedShaped
import Derived.Shelf.Vars
import Derived.Deep.DeepHandedRow
import Derived.Lib.LaidTab
import Derived.JoinedCond
namespace Go.Proofs.YtafhncpaoolljaaGreat.manifestSigned
set_option maxRecDepth 100000
open Go Go.RowKit Go.ChangeShapes Go.WideShapes Go.ChangeAt
open Go.ChangeMaps (open_string shut_string)
set_option linter.unusedVariables false

theorem gr_below {w w' : World} (h : Gr w w') : Below w.heap.size w w' := h
set_option maxHeartbeats 4000000 in
theorem walk (w : World) (m : Int) (hm : w.cell? ⟨0, 0, none⟩ = some (.int .i64 m)) (seed : ByteArray) (wseed : seed.size ≤ maxLen) (text : ByteArray) (wtext : text.size ≤ maxLen) (sig : ByteArray) (wsig : sig.size ≤ maxLen) : Calls Tryz.prog 3 #[.string seed, .string text, .string sig] w fun e w' => e = .returned (.bool true) ∧ Below w.heap.size w w' := by
  have KM := Box.mk (show ∀ wx, Below w.heap.size w wx → wx.cell? ⟨0, 0, none⟩ = some (.int .i64 m) from fun wx h => (h.cell (p := ⟨0, 0, none⟩) (World.block_lt_of_cell? w _ hm)).trans hm)
  unfold maxLen at wtext
  clear hm wseed wsig
  by_cases h1 : 1000 < text.size
  · as_aux_lemma =>
    have h1I : (1000 : Int) < (text.size : Int) := by omega
    clear h1
    go_enter Tryz.func3, Tryz.ntmps3
    go_wp2_with fail
    refine (fixed_any m _ (KM.out _ (Below.refl _ _))).mono ?_
    rintro e w1 ⟨rfl, hb⟩
    have B1 := Box.mk hb
    clear hb
    go_wp2_with fail
    go_ret
    exact ⟨rfl, B1.out⟩
  · have h1I : ¬ (1000 : Int) < (text.size : Int) := by omega
    have HM := Box.mk (show text.size ≤ 1000 by omega)
    clear h1 wtext
    by_cases hs : seed.size = 32
    · as_aux_lemma =>
      have PU := Box.mk (Fe.public_yes seed hs)
      have SG := Box.mk (Fe.sign_yes seed text hs HM.out)
      clear hs
      go_enter Tryz.func3, Tryz.ntmps3
      go_wp2_with fail
      refine (PU.out _).mono ?_
      rintro e w1 ⟨key, hkey, rfl, hg⟩
      have B1 := Box.mk (gr_below hg)
      clear hg PU
      go_wp2_with fail
      refine (SG.out _).mono ?_
      rintro e w2 ⟨t, ht, rfl, hg⟩
      have B2 := Box.mk (B1.out.trans ((gr_below hg).mono B1.out.size))
      clear hg SG
      go_wp2_with fail
      refine (check_any key text t HM.out _).mono ?_
      rintro e w3 ⟨b, rfl, hb, hg⟩
      obtain rfl := hb.2 (Fe.SigOf.ver ht.out hkey.out)
      rw [show chkV true = 0 from rfl]
      have B3 := Box.mk (B2.out.trans ((gr_below hg).mono B2.out.size))
      clear hg hb
      go_wp2_with fail
      refine (check_any key text sig HM.out _).mono ?_
      rintro e w4 ⟨b, rfl, hb, hg⟩
      have B4 := Box.mk (B3.out.trans ((gr_below hg).mono B3.out.size))
      have HB := Box.mk hb
      clear hg hb
      go_wp2_with fail
      refine (rcheck_any key text sig HM.out _).mono ?_
      rintro e w5 ⟨b', rfl, hb, hg⟩
      obtain rfl : b' = b := by rw [Bool.eq_iff_iff, hb, HB.out]
      have B5 := Box.mk (B4.out.trans ((gr_below hg).mono B4.out.size))
      have hcc : (chkV b' == chkV b') = true := by simp
      clear hg hb HB
      go_wp2_with fail
      refine (fixed_any m _ (KM.out _ B5.out)).mono ?_
      rintro e w6 ⟨rfl, hb⟩
      have B6 := Box.mk (B5.out.trans (hb.mono B5.out.size))
      clear hb
      go_wp2_with fail
      go_ret
      exact ⟨rfl, B6.out⟩
    · as_aux_lemma =>
      have PU := Box.mk (Fe.public_no seed hs)
      clear hs
      go_enter Tryz.func3, Tryz.ntmps3
      go_wp2_with fail
      refine (PU.out _).mono ?_
      rintro e w1 ⟨rfl, hg⟩
      have B3 := Box.mk (gr_below hg)
      clear hg PU
      go_wp2_with fail
      refine (check_any seed text sig HM.out _).mono ?_
      rintro e w4 ⟨b, rfl, hb, hg⟩
      have B4 := Box.mk (B3.out.trans ((gr_below hg).mono B3.out.size))
      have HB := Box.mk hb
      clear hg hb
      go_wp2_with fail
      refine (rcheck_any seed text sig HM.out _).mono ?_
      rintro e w5 ⟨b', rfl, hb, hg⟩
      obtain rfl : b' = b := by rw [Bool.eq_iff_iff, hb, HB.out]
      have B5 := Box.mk (B4.out.trans ((gr_below hg).mono B4.out.size))
      have hcc : (chkV b' == chkV b') = true := by simp
      clear hg hb HB
      go_wp2_with fail
      refine (fixed_any m _ (KM.out _ B5.out)).mono ?_
      rintro e w6 ⟨rfl, hb⟩
      have B6 := Box.mk (B5.out.trans (hb.mono B5.out.size))
      clear hb
      go_wp2_with fail
      go_ret
      exact ⟨rfl, B6.out⟩
theorem own : ownKnob Tryz.prog.godebug = none := by kernel_rfl
theorem laidOut : laidOutB Tryz.prog = true := by kernel_rfl
theorem contract (H : Type) (enc : TypeId × Value → H) (W : World) (base : Nat) (args : Array Value) (ds gs : List (DataW H)) (before : List MemPlace)
    (hval0 : ∀ (j : Nat) t v, Tryz.f3.params[j]? = some t → args[j]? = some v → Value.okWide Tryz.prog W .any base t v)
    (hW : DataW.Whole enc Tryz.prog Tryz.f3.params.toList Rows.manifestSignedSpec.vars false W args.toList ds gs before) (hsh : W.ShapedOpen Tryz.prog) :
    Calls Tryz.prog 3 args W fun e W' => ∃ v, e = .returned v ∧ Rows.manifestSignedSpec.post enc Tryz.prog Tryz.f3 false true false false W args v W' := by
  have hval : ∀ (j : Nat) t v, Tryz.f3.params[j]? = some t → args[j]? = some v → Value.okWide Tryz.prog W .any base t v := hval0
  obtain ⟨m0, hm0⟩ := cell_of_shapedOpen_int (g := 0) (zero := #[.int .i64 0]) (t := 3) hsh (of_decide_eq_true (by kernel_rfl)) (by kernel_rfl) rfl (by kernel_rfl) (by kernel_rfl) Tryz.underlying3
  have hW' := hW
  obtain ⟨p, q, hA0, hV, rfl, hfz, hnd⟩ := hW
  have hA : DataW.TrodAll enc Tryz.prog W 0 (fun _ => true) true Tryz.f3.params.toList args.toList ds p := hA0
  rw [Tryz.params3] at hA hval
  obtain ⟨v0, vs0, d0, ds0, p0, q0, hargs, rfl, rfl, h0, r0⟩ := trodAll_cons hA
  obtain ⟨v1, vs1, d1, ds1, p1, q1, rfl, rfl, rfl, h1, r1⟩ := trodAll_cons r0
  obtain ⟨v2, vs2, d2, ds2, p2, q2, rfl, rfl, rfl, h2, r2⟩ := trodAll_cons r1
  obtain ⟨rfl, rfl, rfl⟩ := trodAll_nil r2
  obtain rfl : args = #[v0, v1, v2] := by cases args; simp_all
  obtain ⟨rfl, rfl⟩ := trodVars_none hV
  obtain ⟨s0, rfl, rfl, rfl, ws0⟩ := open_string Tryz.underlying9 (hval 0 9 v0 rfl rfl) h0
  obtain ⟨s1, rfl, rfl, rfl, ws1⟩ := open_string Tryz.underlying9 (hval 1 9 v1 rfl rfl) h1
  obtain ⟨s2, rfl, rfl, rfl, ws2⟩ := open_string Tryz.underlying9 (hval 2 9 v2 rfl rfl) h2
  clear hA0 hval0
  refine (walk W m0 hm0 s0 ws0 s1 ws1 s2 ws2).mono fun e W' ⟨he, bel⟩ => ?_
  subst he
  exact ⟨_, rfl, _, _, _, [], _, [], hW', trodAll_mk1 (shut_bool Tryz.underlying4 _), (trodAll_cons_mk (shut_string Tryz.underlying9 ws0) (trodAll_cons_mk (shut_string Tryz.underlying9 ws1) (trodAll_cons_mk (shut_string Tryz.underlying9 ws2) trodAll_mk0))), rfl, bel.frame _, fun h => by cases h⟩
set_option maxRecDepth 100000 in
theorem lifted (os : Os) (started : os.Started) (H : Type) (enc : TypeId × Value → H) :
    ReturnsInHanded {} Tryz.checked os 3 .any (Rows.manifestSignedSpec.pre6 enc Tryz.prog Tryz.f3 Rows.manifestSignedRow.domain false) (Rows.manifestSignedSpec.post enc Tryz.prog Tryz.f3 false true false false) := by
  refine returnsInHanded_of_change_shaped (C := Tryz.checked) own started (by kernel_rfl) Tryz.func3
    (ChangeSpec.witness6 (enc := enc) (C := Tryz.checked) false ⟨#[], #[.string ⟨#[]⟩, .string ⟨#[]⟩, .string ⟨#[]⟩], []⟩ 8 (by kernel_rfl) (by kernel_rfl) (by kernel_rfl) (by kernel_rfl)) ?_
  intro W base args ds gs before hval hW _ _ hsh _
  exact contract H enc W base args ds gs before hval hW hsh
theorem proved : Rows.ManifestSignedSaid :=
  OpenClaim.holds_of_wide 3 Tryz.f3 rfl rfl rfl rfl rfl rfl rfl ⟨rfl, rfl, rfl, rfl, rfl⟩ rfl rfl rfl rfl rfl (by kernel_rfl) Tryz.func3 (by kernel_rfl)
    (of_decide_eq_true (by kernel_rfl)) (by unfold Func.isWrapper; first | (rw [if_pos (by decide +kernel)]; kernel_rfl) | (rw [if_neg (by decide +kernel)]; exact ⟨rfl, rfl⟩))
    (fun os started H enc _ => lifted os started H enc)
#print axioms proved
end Go.Proofs.YtafhncpaoolljaaGreat.manifestSigned
