/- Whatever three strings come in, the call of CurveNumbers returns true and leaves its arguments as they were. No condition. -/
import Derived.Test.YtpgichfagodkpaaCurveP
import Derived.ProofKit
import Derived.OpenShut
import Derived.ShutString
import Derived.ChangeOld
namespace Go.Proofs.Ytpgichfagodkpaa.curveNumbers
open Go Go.RowKit Go.ChangeShapes Go.WideShapes Go.ChangeAt Fe
open Go.ChangeMaps (open_string shut_string)
set_option linter.unusedVariables false

set_option maxRecDepth 100000 in
set_option maxHeartbeats 4000000 in
theorem walk (a : ByteArray) (wa : a.size ≤ maxLen) (b : ByteArray) (wb : b.size ≤ maxLen) (p : ByteArray) (wp : p.size ≤ maxLen) (w : World) :
    Calls Try.prog 9 #[.string a, .string b, .string p] w fun e w' => e = .returned (.bool true) ∧ Below w.heap.size w w' := by
  clear wa wb wp
  by_cases h : a.size = 32
  ·
    have ha := h; have haI : (a.size : Int) = 32 := by omega
    have Ha := Box.mk h; clear h
    by_cases h : b.size = 32
    ·
      have hb := h; have hbI : (b.size : Int) = 32 := by omega
      have Hb := Box.mk h; clear h
      rcases pt_or p with ⟨Pp, h⟩ | h
      ·
        have Hp := Box.mk h; clear h
        have HSUM := lsum_any a b ha hb
        obtain ⟨ok, hok⟩ : ∃ ok, ok = ((((Go.Proofs.Ytpgichfagodkpaa.num a + Go.Proofs.Ytpgichfagodkpaa.num b) / 256 ^ 32 : Nat) : Int) == 0) := ⟨_, rfl⟩
        obtain ⟨S, hS⟩ : ∃ S, S = sbytes (Go.Proofs.Ytpgichfagodkpaa.num a + Go.Proofs.Ytpgichfagodkpaa.num b) := ⟨_, rfl⟩
        rw [← hok, ← hS] at HSUM
        have HSM := Box.mk HSUM
        have HSZ := Box.mk (show S.size = 32 from by rw [hS]; exact sbytes_size _)
        have HOK := Box.mk (show ok = true → Go.Proofs.Ytpgichfagodkpaa.num S = Go.Proofs.Ytpgichfagodkpaa.num a + Go.Proofs.Ytpgichfagodkpaa.num b from fun h => by
          rw [hS, num_sbytes]
          rw [hok] at h
          have h1 : (Go.Proofs.Ytpgichfagodkpaa.num a + Go.Proofs.Ytpgichfagodkpaa.num b) / 256 ^ 32 = 0 := Int.ofNat.inj (beq_iff_eq.1 h)
          exact Nat.mod_eq_of_lt (by rcases Nat.div_eq_zero_iff.1 h1 with h2 | h2 <;> omega))
        obtain ⟨one, hone⟩ : ∃ s, s = sc 1 := ⟨_, rfl⟩
        have HO := Box.mk (show one.size = 32 ∧ Go.Proofs.Ytpgichfagodkpaa.num one = 1 from ⟨by rw [hone]; exact sc_size _, by rw [hone]; exact sc_small 1 (by omega)⟩)
        have HMOD := Box.mk (fun (v : World) => hone ▸ mod1 1 (by omega) v.heap.size 1 (v.alloc (.cells #[.int .i64 1] 3)) (cell_new v _ _) (by simp))
        clear HSUM hok hS hone
        go_enter Try.func9, Try.ntmps9
        go_wp2_with fail
        refine (cis Hp.out _).mono ?_
        rintro e w1 ⟨rfl, k⟩
        have G := Box.mk k; clear k
        go_wp2_with fail
        refine (cmul Hp.out Ha.out _).mono ?_
        rintro e w2 ⟨N, HN, rfl, k⟩
        replace G := Box.mk (G.out.trans k); clear k
        go_wp2_with fail
        refine (cmul Hp.out Hb.out _).mono ?_
        rintro e w3 ⟨M, HM, rfl, k⟩
        replace G := Box.mk (G.out.trans k); clear k
        go_wp2_with fail
        refine (cadd HN.out HM.out _).mono ?_
        rintro e w4 ⟨NM, HNM, rfl, k⟩
        replace G := Box.mk (G.out.trans k); clear k
        go_wp2_with fail
        refine (HMOD.out _).mono ?_
        rintro e wm ⟨rfl, k⟩
        replace G := Box.mk ((G.out.trans (Gr.alloc _ _)).trans k); clear k
        go_wp2_with fail
        refine (cmul Hp.out HO.out.1 _).mono ?_
        rintro e w5 ⟨ONE, HONE, rfl, k⟩
        replace G := Box.mk (G.out.trans k); clear k
        have q1 : (ONE.toList == p.toList) = true := HONE.out.same Hp.out (by rw [HO.out.2, CP.mul_one])
        go_wp2_with fail
        refine (cbase _).mono ?_
        rintro e w6 ⟨BS, HBS, rfl, k⟩
        replace G := Box.mk (G.out.trans k); clear k
        go_wp2_with fail
        refine (cmul HBS.out Hb.out _).mono ?_
        rintro e w7 ⟨BB, HBB, rfl, k⟩
        replace G := Box.mk (G.out.trans k); clear k
        go_wp2_with fail
        refine (cadd HN.out HBB.out _).mono ?_
        rintro e w8 ⟨X, HX, rfl, k⟩
        replace G := Box.mk (G.out.trans k); clear k
        go_wp2_with fail
        refine (cboth Hp.out Ha.out Hb.out _).mono ?_
        rintro e w9 ⟨BO, HBO, rfl, k⟩
        replace G := Box.mk (G.out.trans k); clear k
        have q2 : (BO.toList == X.toList) = true := HBO.out.same HX.out rfl
        go_wp2_with fail
        refine (Fe.lfixed_any _).mono ?_
        rintro e w10 ⟨rfl, k⟩
        replace G := Box.mk (G.out.trans k); clear k
        go_wp2_with fail
        refine (HSM.out _).mono ?_
        rintro e w11 ⟨rfl, k⟩
        replace G := Box.mk (G.out.trans k); clear k
        cases ok
        ·
          go_wp2
          go_ret
          exact ⟨rfl, G.out⟩
        ·
          go_wp2_with fail
          refine (cmul Hp.out HSZ.out _).mono ?_
          rintro e w12 ⟨T, HT, rfl, k⟩
          replace G := Box.mk (G.out.trans k); clear k
          have q3 : (T.toList == NM.toList) = true := HT.out.same HNM.out (by rw [HOK.out trivial, CP.mul_add])
          go_wp2
          go_ret
          exact ⟨rfl, G.out⟩
      ·
        have Hp := Box.mk h; clear h
        go_enter Try.func9, Try.ntmps9
        go_wp2_with fail
        refine (cis_no Hp.out _).mono ?_
        rintro e w13 ⟨rfl, k⟩
        have G := Box.mk k; clear k
        go_wp2_with fail
        refine (Fe.lfixed_any _).mono ?_
        rintro e w14 ⟨rfl, k⟩
        replace G := Box.mk (G.out.trans k); clear k
        go_wp2
        go_ret
        exact ⟨rfl, G.out⟩
    ·
      have hbI : ((b.size : Int) == 32) = false := by rw [beq_eq_false_iff_ne]; omega
      go_enter Try.func9, Try.ntmps9
      go_wp2_with fail
      refine (Fe.lfixed_any _).mono ?_
      rintro e w15 ⟨rfl, k⟩
      have G := Box.mk k; clear k
      go_wp2
      go_ret
      exact ⟨rfl, G.out⟩
  ·
    have haI : ((a.size : Int) == 32) = false := by rw [beq_eq_false_iff_ne]; omega
    go_enter Try.func9, Try.ntmps9
    go_wp2_with fail
    refine (Fe.lfixed_any _).mono ?_
    rintro e w16 ⟨rfl, k⟩
    have G := Box.mk k; clear k
    go_wp2
    go_ret
    exact ⟨rfl, G.out⟩
theorem own : ownKnob Try.prog.godebug = none := by kernel_rfl
theorem laidOut : laidOutB Try.prog = true := by kernel_rfl
set_option maxRecDepth 100000 in
theorem lifted (os : Os) (started : os.Started) (H : Type) (enc : TypeId × Value → H) :
    ReturnsInHanded {} Try.checked os 9 .any (Rows.curveNumbersSpec.pre6 enc Try.prog Try.f9 Rows.curveNumbersRow.domain false) (Rows.curveNumbersSpec.post enc Try.prog Try.f9 false true false false) := by
  refine returnsInHanded_of_change (C := Try.checked) own started (by kernel_rfl) Try.func9
    (ChangeSpec.witness6 (enc := enc) (C := Try.checked) false ⟨#[], #[.string ⟨#[]⟩, .string ⟨#[]⟩, .string ⟨#[]⟩], []⟩ 8 (by kernel_rfl) (by kernel_rfl) (by kernel_rfl) (by kernel_rfl)) ?_
  intro W base args ds gs before hval0 hW hcnd _
  have hval : ∀ (j : Nat) t v, Try.f9.params[j]? = some t → args[j]? = some v → Value.okWide Try.prog W .any base t v := hval0
  have hW' := hW
  obtain ⟨p, q, hA0, hV, rfl, hfz, hnd⟩ := hW
  have hA : DataW.TrodAll enc Try.prog W 0 (fun _ => true) true Try.f9.params.toList args.toList ds p := hA0
  rw [Try.params9] at hA hval
  obtain ⟨v0, vs0, d0, ds0, p0, q0, hargs, rfl, rfl, h0, r0⟩ := trodAll_cons hA
  obtain ⟨v1, vs1, d1, ds1, p1, q1, rfl, rfl, rfl, h1, r1⟩ := trodAll_cons r0
  obtain ⟨v2, vs2, d2, ds2, p2, q2, rfl, rfl, rfl, h2, r2⟩ := trodAll_cons r1
  obtain ⟨rfl, rfl, rfl⟩ := trodAll_nil r2
  obtain rfl : args = #[v0, v1, v2] := by cases args; simp_all
  obtain ⟨rfl, rfl⟩ := trodVars_none hV
  obtain ⟨s0, rfl, rfl, rfl, ws0⟩ := open_string Try.underlying9 (hval 0 9 v0 rfl rfl) h0
  obtain ⟨s1, rfl, rfl, rfl, ws1⟩ := open_string Try.underlying9 (hval 1 9 v1 rfl rfl) h1
  obtain ⟨s2, rfl, rfl, rfl, ws2⟩ := open_string Try.underlying9 (hval 2 9 v2 rfl rfl) h2
  clear hA0 hval0
  refine (walk s0 ws0 s1 ws1 s2 ws2 W).mono fun e W' ⟨he, bel⟩ => ?_
  subst he
  exact ⟨_, rfl, _, _, _, [], _, [], hW', trodAll_mk1 (shut_bool Try.underlying4 _), (trodAll_cons_mk (shut_string Try.underlying9 ws0) (trodAll_cons_mk (shut_string Try.underlying9 ws1) (trodAll_cons_mk (shut_string Try.underlying9 ws2) trodAll_mk0))), rfl, bel.frame _, fun h => by cases h⟩

theorem proved : Rows.CurveNumbersSaid :=
  OpenClaim.holds_of_wide 9 Try.f9 rfl rfl rfl rfl rfl rfl rfl ⟨rfl, rfl, rfl, rfl, rfl⟩ rfl rfl rfl rfl rfl (by kernel_rfl) Try.func9 (by kernel_rfl)
    (of_decide_eq_true (by kernel_rfl)) (by unfold Func.isWrapper; first | (rw [if_pos (by decide +kernel)]; kernel_rfl) | (rw [if_neg (by decide +kernel)]; exact ⟨rfl, rfl⟩))
    (fun os started H enc _ => lifted os started H enc)
#print axioms proved
end Go.Proofs.Ytpgichfagodkpaa.curveNumbers
