/- Whatever string comes in, the call of FieldBack returns true and leaves its argument as it was. No condition. -/
import Derived.Test.YtelbgoalikkikaaFieldAE
import Derived.ProofKit
import Derived.OpenShut
import Derived.ShutString
import Derived.ChangeOld
namespace Go.Proofs.Ytelbgoalikkikaa.fieldBack
open Go Go.RowKit Go.ChangeShapes Go.WideShapes Go.ChangeAt Fe
open Go.ChangeMaps (open_string shut_string)
set_option linter.unusedVariables false

set_option maxRecDepth 100000 in
set_option maxHeartbeats 2000000 in
theorem walk (a : ByteArray) (wa : a.size ≤ maxLen) (w : World) :
    Calls Try.prog 6 #[.string a] w fun e w' => e = .returned (.bool true) ∧ Below w.heap.size w w' := by
  clear wa
  cases ha : isF a
  ·
    have Ha := Box.mk ha; clear ha
    go_enter Try.func6, Try.ntmps6
    go_wp2_with fail
    refine (Fe.fixed_any _).mono ?_
    rintro e w1 ⟨rfl, k⟩
    have G := Box.mk k; clear k
    go_wp2_with fail
    refine (Fe.is_at Ha.out _).mono ?_
    rintro e w2 ⟨rfl, k⟩
    replace G := Box.mk (G.out.trans k); clear k
    go_wp2_with fail
    refine (Fe.fixed_any _).mono ?_
    rintro e w3 ⟨rfl, k⟩
    replace G := Box.mk (G.out.trans k); clear k
    go_wp2
    go_ret
    exact ⟨rfl, G.out⟩
  ·
    have Ha := Box.mk ha; clear ha
    have Ea := Box.mk (El.of Ha.out)
    obtain ⟨na, hn⟩ : ∃ n, n = Go.Proofs.Ytelbgoalikkikaa.num a := ⟨_, rfl⟩
    rw [← hn] at Ea
    clear hn
    have hsq := root_sq Ea.out.lt
    have hrr : (rtN (na * na % fp)).1 = na ∨ (rtN (na * na % fp)).1 = (fp - na) % fp := sq_eq (rt_lt _) Ea.out.lt (root_back hsq)
    have HSQ := Box.mk hsq
    clear hsq
    by_cases h0 : na = 0
    ·
      have H0 := Box.mk h0; clear h0
      by_cases hr : (rtN (na * na % fp)).1 = na
      ·
        have HR1 := Box.mk hr; clear hr hrr
        cases hok : (rtN na).2
        ·
          have HOK := Box.mk hok; clear hok
          go_enter Try.func6, Try.ntmps6
          go_wp2_with fail
          refine (Fe.fixed_any _).mono ?_
          rintro e w4 ⟨rfl, k⟩
          have G := Box.mk k; clear k
          go_wp2_with fail
          refine (Fe.is_at Ha.out _).mono ?_
          rintro e w5 ⟨rfl, k⟩
          replace G := Box.mk (G.out.trans k); clear k
          go_wp2_with fail
          refine (finv_el Ea.out _).mono ?_
          rintro e w6 ⟨B, HB, rfl, k⟩
          replace G := Box.mk (G.out.trans k); clear k
          go_wp2_with fail
          refine (fmul_el Ea.out HB.out _).mono ?_
          rintro e w7 ⟨C, HC, rfl, k⟩
          replace G := Box.mk (G.out.trans k); clear k
          go_wp2_with fail
          refine (lnum_el 1 (by omega) _).mono ?_
          rintro e w8 ⟨W1, HW1, rfl, k⟩
          replace G := Box.mk (G.out.trans k); clear k
          go_wp2_with fail
          refine (lnum_el 0 (by omega) _).mono ?_
          rintro e w9 ⟨Z1, HZ1, rfl, k⟩
          replace G := Box.mk (G.out.trans k); clear k
          have q0 : (a.toList == Z1.toList) = true := Ea.out.same HZ1.out H0.out
          go_wp2_with fail
          refine (lnum_el 0 (by omega) _).mono ?_
          rintro e w10 ⟨W2, HW2, rfl, k⟩
          replace G := Box.mk (G.out.trans k); clear k
          have q1 : (C.toList == W2.toList) = true := HC.out.same HW2.out (by rw [H0.out, Nat.zero_mul, Nat.zero_mod])
          have q1n : (C.toList != W2.toList) = false := by rw [bne, q1]; rfl
          go_wp2_with fail
          refine (fmul_el Ea.out Ea.out _).mono ?_
          rintro e w11 ⟨S, HS, rfl, k⟩
          replace G := Box.mk (G.out.trans k); clear k
          go_wp2_with fail
          refine (froot_yes HS.out _ HSQ.out).mono ?_
          rintro e w12 ⟨R, HR, rfl, k⟩
          replace G := Box.mk (G.out.trans k); clear k
          go_wp2_with fail
          refine (lnum_el 0 (by omega) _).mono ?_
          rintro e w13 ⟨Z2, HZ2, rfl, k⟩
          replace G := Box.mk (G.out.trans k); clear k
          go_wp2_with fail
          refine (fsub_el HZ2.out Ea.out _).mono ?_
          rintro e w14 ⟨N, HN, rfl, k⟩
          replace G := Box.mk (G.out.trans k); clear k
          have q2 : (R.toList == a.toList) = true := HR.out.same Ea.out HR1.out
          have q2n : (R.toList != a.toList) = false := by rw [bne, q2]; rfl
          go_wp2_with fail
          refine (froot_no Ea.out _ HOK.out).mono ?_
          rintro e w15 ⟨rfl, k⟩
          replace G := Box.mk (G.out.trans k); clear k
          go_wp2_with fail
          refine (fmul_no (a := ⟨#[]⟩) (b := ⟨#[]⟩) (by rw [isF_empty]; rfl) _).mono ?_
          rintro e w16 ⟨rfl, k⟩
          replace G := Box.mk (G.out.trans k); clear k
          go_wp2
          go_ret
          exact ⟨rfl, G.out⟩
        ·
          have HOK := Box.mk hok; clear hok
          go_enter Try.func6, Try.ntmps6
          go_wp2_with fail
          refine (Fe.fixed_any _).mono ?_
          rintro e w17 ⟨rfl, k⟩
          have G := Box.mk k; clear k
          go_wp2_with fail
          refine (Fe.is_at Ha.out _).mono ?_
          rintro e w18 ⟨rfl, k⟩
          replace G := Box.mk (G.out.trans k); clear k
          go_wp2_with fail
          refine (finv_el Ea.out _).mono ?_
          rintro e w19 ⟨B, HB, rfl, k⟩
          replace G := Box.mk (G.out.trans k); clear k
          go_wp2_with fail
          refine (fmul_el Ea.out HB.out _).mono ?_
          rintro e w20 ⟨C, HC, rfl, k⟩
          replace G := Box.mk (G.out.trans k); clear k
          go_wp2_with fail
          refine (lnum_el 1 (by omega) _).mono ?_
          rintro e w21 ⟨W1, HW1, rfl, k⟩
          replace G := Box.mk (G.out.trans k); clear k
          go_wp2_with fail
          refine (lnum_el 0 (by omega) _).mono ?_
          rintro e w22 ⟨Z1, HZ1, rfl, k⟩
          replace G := Box.mk (G.out.trans k); clear k
          have q0 : (a.toList == Z1.toList) = true := Ea.out.same HZ1.out H0.out
          go_wp2_with fail
          refine (lnum_el 0 (by omega) _).mono ?_
          rintro e w23 ⟨W2, HW2, rfl, k⟩
          replace G := Box.mk (G.out.trans k); clear k
          have q1 : (C.toList == W2.toList) = true := HC.out.same HW2.out (by rw [H0.out, Nat.zero_mul, Nat.zero_mod])
          have q1n : (C.toList != W2.toList) = false := by rw [bne, q1]; rfl
          go_wp2_with fail
          refine (fmul_el Ea.out Ea.out _).mono ?_
          rintro e w24 ⟨S, HS, rfl, k⟩
          replace G := Box.mk (G.out.trans k); clear k
          go_wp2_with fail
          refine (froot_yes HS.out _ HSQ.out).mono ?_
          rintro e w25 ⟨R, HR, rfl, k⟩
          replace G := Box.mk (G.out.trans k); clear k
          go_wp2_with fail
          refine (lnum_el 0 (by omega) _).mono ?_
          rintro e w26 ⟨Z2, HZ2, rfl, k⟩
          replace G := Box.mk (G.out.trans k); clear k
          go_wp2_with fail
          refine (fsub_el HZ2.out Ea.out _).mono ?_
          rintro e w27 ⟨N, HN, rfl, k⟩
          replace G := Box.mk (G.out.trans k); clear k
          have q2 : (R.toList == a.toList) = true := HR.out.same Ea.out HR1.out
          have q2n : (R.toList != a.toList) = false := by rw [bne, q2]; rfl
          go_wp2_with fail
          refine (froot_yes Ea.out _ HOK.out).mono ?_
          rintro e w28 ⟨T, HT, rfl, k⟩
          replace G := Box.mk (G.out.trans k); clear k
          go_wp2_with fail
          refine (fmul_el HT.out HT.out _).mono ?_
          rintro e w29 ⟨U, HU, rfl, k⟩
          replace G := Box.mk (G.out.trans k); clear k
          have q4 : (U.toList == a.toList) = true := HU.out.same Ea.out (root_back HOK.out)
          go_wp2
          go_ret
          exact ⟨rfl, G.out⟩
      ·
        have HR2 := Box.mk (hrr.resolve_left hr); have HR1 := Box.mk hr; clear hr hrr
        cases hok : (rtN na).2
        ·
          have HOK := Box.mk hok; clear hok
          go_enter Try.func6, Try.ntmps6
          go_wp2_with fail
          refine (Fe.fixed_any _).mono ?_
          rintro e w30 ⟨rfl, k⟩
          have G := Box.mk k; clear k
          go_wp2_with fail
          refine (Fe.is_at Ha.out _).mono ?_
          rintro e w31 ⟨rfl, k⟩
          replace G := Box.mk (G.out.trans k); clear k
          go_wp2_with fail
          refine (finv_el Ea.out _).mono ?_
          rintro e w32 ⟨B, HB, rfl, k⟩
          replace G := Box.mk (G.out.trans k); clear k
          go_wp2_with fail
          refine (fmul_el Ea.out HB.out _).mono ?_
          rintro e w33 ⟨C, HC, rfl, k⟩
          replace G := Box.mk (G.out.trans k); clear k
          go_wp2_with fail
          refine (lnum_el 1 (by omega) _).mono ?_
          rintro e w34 ⟨W1, HW1, rfl, k⟩
          replace G := Box.mk (G.out.trans k); clear k
          go_wp2_with fail
          refine (lnum_el 0 (by omega) _).mono ?_
          rintro e w35 ⟨Z1, HZ1, rfl, k⟩
          replace G := Box.mk (G.out.trans k); clear k
          have q0 : (a.toList == Z1.toList) = true := Ea.out.same HZ1.out H0.out
          go_wp2_with fail
          refine (lnum_el 0 (by omega) _).mono ?_
          rintro e w36 ⟨W2, HW2, rfl, k⟩
          replace G := Box.mk (G.out.trans k); clear k
          have q1 : (C.toList == W2.toList) = true := HC.out.same HW2.out (by rw [H0.out, Nat.zero_mul, Nat.zero_mod])
          have q1n : (C.toList != W2.toList) = false := by rw [bne, q1]; rfl
          go_wp2_with fail
          refine (fmul_el Ea.out Ea.out _).mono ?_
          rintro e w37 ⟨S, HS, rfl, k⟩
          replace G := Box.mk (G.out.trans k); clear k
          go_wp2_with fail
          refine (froot_yes HS.out _ HSQ.out).mono ?_
          rintro e w38 ⟨R, HR, rfl, k⟩
          replace G := Box.mk (G.out.trans k); clear k
          go_wp2_with fail
          refine (lnum_el 0 (by omega) _).mono ?_
          rintro e w39 ⟨Z2, HZ2, rfl, k⟩
          replace G := Box.mk (G.out.trans k); clear k
          go_wp2_with fail
          refine (fsub_el HZ2.out Ea.out _).mono ?_
          rintro e w40 ⟨N, HN, rfl, k⟩
          replace G := Box.mk (G.out.trans k); clear k
          have q2 : (R.toList == a.toList) = false := HR.out.other Ea.out HR1.out
          have q2n : (R.toList != a.toList) = true := by rw [bne, q2]; rfl
          have q3 : (R.toList == N.toList) = true := HR.out.same HN.out (by rw [HR2.out, Nat.zero_add])
          have q3n : (R.toList != N.toList) = false := by rw [bne, q3]; rfl
          go_wp2_with fail
          refine (froot_no Ea.out _ HOK.out).mono ?_
          rintro e w41 ⟨rfl, k⟩
          replace G := Box.mk (G.out.trans k); clear k
          go_wp2_with fail
          refine (fmul_no (a := ⟨#[]⟩) (b := ⟨#[]⟩) (by rw [isF_empty]; rfl) _).mono ?_
          rintro e w42 ⟨rfl, k⟩
          replace G := Box.mk (G.out.trans k); clear k
          go_wp2
          go_ret
          exact ⟨rfl, G.out⟩
        ·
          have HOK := Box.mk hok; clear hok
          go_enter Try.func6, Try.ntmps6
          go_wp2_with fail
          refine (Fe.fixed_any _).mono ?_
          rintro e w43 ⟨rfl, k⟩
          have G := Box.mk k; clear k
          go_wp2_with fail
          refine (Fe.is_at Ha.out _).mono ?_
          rintro e w44 ⟨rfl, k⟩
          replace G := Box.mk (G.out.trans k); clear k
          go_wp2_with fail
          refine (finv_el Ea.out _).mono ?_
          rintro e w45 ⟨B, HB, rfl, k⟩
          replace G := Box.mk (G.out.trans k); clear k
          go_wp2_with fail
          refine (fmul_el Ea.out HB.out _).mono ?_
          rintro e w46 ⟨C, HC, rfl, k⟩
          replace G := Box.mk (G.out.trans k); clear k
          go_wp2_with fail
          refine (lnum_el 1 (by omega) _).mono ?_
          rintro e w47 ⟨W1, HW1, rfl, k⟩
          replace G := Box.mk (G.out.trans k); clear k
          go_wp2_with fail
          refine (lnum_el 0 (by omega) _).mono ?_
          rintro e w48 ⟨Z1, HZ1, rfl, k⟩
          replace G := Box.mk (G.out.trans k); clear k
          have q0 : (a.toList == Z1.toList) = true := Ea.out.same HZ1.out H0.out
          go_wp2_with fail
          refine (lnum_el 0 (by omega) _).mono ?_
          rintro e w49 ⟨W2, HW2, rfl, k⟩
          replace G := Box.mk (G.out.trans k); clear k
          have q1 : (C.toList == W2.toList) = true := HC.out.same HW2.out (by rw [H0.out, Nat.zero_mul, Nat.zero_mod])
          have q1n : (C.toList != W2.toList) = false := by rw [bne, q1]; rfl
          go_wp2_with fail
          refine (fmul_el Ea.out Ea.out _).mono ?_
          rintro e w50 ⟨S, HS, rfl, k⟩
          replace G := Box.mk (G.out.trans k); clear k
          go_wp2_with fail
          refine (froot_yes HS.out _ HSQ.out).mono ?_
          rintro e w51 ⟨R, HR, rfl, k⟩
          replace G := Box.mk (G.out.trans k); clear k
          go_wp2_with fail
          refine (lnum_el 0 (by omega) _).mono ?_
          rintro e w52 ⟨Z2, HZ2, rfl, k⟩
          replace G := Box.mk (G.out.trans k); clear k
          go_wp2_with fail
          refine (fsub_el HZ2.out Ea.out _).mono ?_
          rintro e w53 ⟨N, HN, rfl, k⟩
          replace G := Box.mk (G.out.trans k); clear k
          have q2 : (R.toList == a.toList) = false := HR.out.other Ea.out HR1.out
          have q2n : (R.toList != a.toList) = true := by rw [bne, q2]; rfl
          have q3 : (R.toList == N.toList) = true := HR.out.same HN.out (by rw [HR2.out, Nat.zero_add])
          have q3n : (R.toList != N.toList) = false := by rw [bne, q3]; rfl
          go_wp2_with fail
          refine (froot_yes Ea.out _ HOK.out).mono ?_
          rintro e w54 ⟨T, HT, rfl, k⟩
          replace G := Box.mk (G.out.trans k); clear k
          go_wp2_with fail
          refine (fmul_el HT.out HT.out _).mono ?_
          rintro e w55 ⟨U, HU, rfl, k⟩
          replace G := Box.mk (G.out.trans k); clear k
          have q4 : (U.toList == a.toList) = true := HU.out.same Ea.out (root_back HOK.out)
          go_wp2
          go_ret
          exact ⟨rfl, G.out⟩
    ·
      have H0 := Box.mk h0; clear h0
      by_cases hr : (rtN (na * na % fp)).1 = na
      ·
        have HR1 := Box.mk hr; clear hr hrr
        cases hok : (rtN na).2
        ·
          have HOK := Box.mk hok; clear hok
          go_enter Try.func6, Try.ntmps6
          go_wp2_with fail
          refine (Fe.fixed_any _).mono ?_
          rintro e w56 ⟨rfl, k⟩
          have G := Box.mk k; clear k
          go_wp2_with fail
          refine (Fe.is_at Ha.out _).mono ?_
          rintro e w57 ⟨rfl, k⟩
          replace G := Box.mk (G.out.trans k); clear k
          go_wp2_with fail
          refine (finv_el Ea.out _).mono ?_
          rintro e w58 ⟨B, HB, rfl, k⟩
          replace G := Box.mk (G.out.trans k); clear k
          go_wp2_with fail
          refine (fmul_el Ea.out HB.out _).mono ?_
          rintro e w59 ⟨C, HC, rfl, k⟩
          replace G := Box.mk (G.out.trans k); clear k
          go_wp2_with fail
          refine (lnum_el 1 (by omega) _).mono ?_
          rintro e w60 ⟨W1, HW1, rfl, k⟩
          replace G := Box.mk (G.out.trans k); clear k
          go_wp2_with fail
          refine (lnum_el 0 (by omega) _).mono ?_
          rintro e w61 ⟨Z1, HZ1, rfl, k⟩
          replace G := Box.mk (G.out.trans k); clear k
          have q0 : (a.toList == Z1.toList) = false := Ea.out.other HZ1.out H0.out
          have q1 : (C.toList == W1.toList) = true := HC.out.same HW1.out (inv_mul (by have := H0.out; omega) Ea.out.lt)
          have q1n : (C.toList != W1.toList) = false := by rw [bne, q1]; rfl
          go_wp2_with fail
          refine (fmul_el Ea.out Ea.out _).mono ?_
          rintro e w62 ⟨S, HS, rfl, k⟩
          replace G := Box.mk (G.out.trans k); clear k
          go_wp2_with fail
          refine (froot_yes HS.out _ HSQ.out).mono ?_
          rintro e w63 ⟨R, HR, rfl, k⟩
          replace G := Box.mk (G.out.trans k); clear k
          go_wp2_with fail
          refine (lnum_el 0 (by omega) _).mono ?_
          rintro e w64 ⟨Z2, HZ2, rfl, k⟩
          replace G := Box.mk (G.out.trans k); clear k
          go_wp2_with fail
          refine (fsub_el HZ2.out Ea.out _).mono ?_
          rintro e w65 ⟨N, HN, rfl, k⟩
          replace G := Box.mk (G.out.trans k); clear k
          have q2 : (R.toList == a.toList) = true := HR.out.same Ea.out HR1.out
          have q2n : (R.toList != a.toList) = false := by rw [bne, q2]; rfl
          go_wp2_with fail
          refine (froot_no Ea.out _ HOK.out).mono ?_
          rintro e w66 ⟨rfl, k⟩
          replace G := Box.mk (G.out.trans k); clear k
          go_wp2_with fail
          refine (fmul_no (a := ⟨#[]⟩) (b := ⟨#[]⟩) (by rw [isF_empty]; rfl) _).mono ?_
          rintro e w67 ⟨rfl, k⟩
          replace G := Box.mk (G.out.trans k); clear k
          go_wp2
          go_ret
          exact ⟨rfl, G.out⟩
        ·
          have HOK := Box.mk hok; clear hok
          go_enter Try.func6, Try.ntmps6
          go_wp2_with fail
          refine (Fe.fixed_any _).mono ?_
          rintro e w68 ⟨rfl, k⟩
          have G := Box.mk k; clear k
          go_wp2_with fail
          refine (Fe.is_at Ha.out _).mono ?_
          rintro e w69 ⟨rfl, k⟩
          replace G := Box.mk (G.out.trans k); clear k
          go_wp2_with fail
          refine (finv_el Ea.out _).mono ?_
          rintro e w70 ⟨B, HB, rfl, k⟩
          replace G := Box.mk (G.out.trans k); clear k
          go_wp2_with fail
          refine (fmul_el Ea.out HB.out _).mono ?_
          rintro e w71 ⟨C, HC, rfl, k⟩
          replace G := Box.mk (G.out.trans k); clear k
          go_wp2_with fail
          refine (lnum_el 1 (by omega) _).mono ?_
          rintro e w72 ⟨W1, HW1, rfl, k⟩
          replace G := Box.mk (G.out.trans k); clear k
          go_wp2_with fail
          refine (lnum_el 0 (by omega) _).mono ?_
          rintro e w73 ⟨Z1, HZ1, rfl, k⟩
          replace G := Box.mk (G.out.trans k); clear k
          have q0 : (a.toList == Z1.toList) = false := Ea.out.other HZ1.out H0.out
          have q1 : (C.toList == W1.toList) = true := HC.out.same HW1.out (inv_mul (by have := H0.out; omega) Ea.out.lt)
          have q1n : (C.toList != W1.toList) = false := by rw [bne, q1]; rfl
          go_wp2_with fail
          refine (fmul_el Ea.out Ea.out _).mono ?_
          rintro e w74 ⟨S, HS, rfl, k⟩
          replace G := Box.mk (G.out.trans k); clear k
          go_wp2_with fail
          refine (froot_yes HS.out _ HSQ.out).mono ?_
          rintro e w75 ⟨R, HR, rfl, k⟩
          replace G := Box.mk (G.out.trans k); clear k
          go_wp2_with fail
          refine (lnum_el 0 (by omega) _).mono ?_
          rintro e w76 ⟨Z2, HZ2, rfl, k⟩
          replace G := Box.mk (G.out.trans k); clear k
          go_wp2_with fail
          refine (fsub_el HZ2.out Ea.out _).mono ?_
          rintro e w77 ⟨N, HN, rfl, k⟩
          replace G := Box.mk (G.out.trans k); clear k
          have q2 : (R.toList == a.toList) = true := HR.out.same Ea.out HR1.out
          have q2n : (R.toList != a.toList) = false := by rw [bne, q2]; rfl
          go_wp2_with fail
          refine (froot_yes Ea.out _ HOK.out).mono ?_
          rintro e w78 ⟨T, HT, rfl, k⟩
          replace G := Box.mk (G.out.trans k); clear k
          go_wp2_with fail
          refine (fmul_el HT.out HT.out _).mono ?_
          rintro e w79 ⟨U, HU, rfl, k⟩
          replace G := Box.mk (G.out.trans k); clear k
          have q4 : (U.toList == a.toList) = true := HU.out.same Ea.out (root_back HOK.out)
          go_wp2
          go_ret
          exact ⟨rfl, G.out⟩
      ·
        have HR2 := Box.mk (hrr.resolve_left hr); have HR1 := Box.mk hr; clear hr hrr
        cases hok : (rtN na).2
        ·
          have HOK := Box.mk hok; clear hok
          go_enter Try.func6, Try.ntmps6
          go_wp2_with fail
          refine (Fe.fixed_any _).mono ?_
          rintro e w80 ⟨rfl, k⟩
          have G := Box.mk k; clear k
          go_wp2_with fail
          refine (Fe.is_at Ha.out _).mono ?_
          rintro e w81 ⟨rfl, k⟩
          replace G := Box.mk (G.out.trans k); clear k
          go_wp2_with fail
          refine (finv_el Ea.out _).mono ?_
          rintro e w82 ⟨B, HB, rfl, k⟩
          replace G := Box.mk (G.out.trans k); clear k
          go_wp2_with fail
          refine (fmul_el Ea.out HB.out _).mono ?_
          rintro e w83 ⟨C, HC, rfl, k⟩
          replace G := Box.mk (G.out.trans k); clear k
          go_wp2_with fail
          refine (lnum_el 1 (by omega) _).mono ?_
          rintro e w84 ⟨W1, HW1, rfl, k⟩
          replace G := Box.mk (G.out.trans k); clear k
          go_wp2_with fail
          refine (lnum_el 0 (by omega) _).mono ?_
          rintro e w85 ⟨Z1, HZ1, rfl, k⟩
          replace G := Box.mk (G.out.trans k); clear k
          have q0 : (a.toList == Z1.toList) = false := Ea.out.other HZ1.out H0.out
          have q1 : (C.toList == W1.toList) = true := HC.out.same HW1.out (inv_mul (by have := H0.out; omega) Ea.out.lt)
          have q1n : (C.toList != W1.toList) = false := by rw [bne, q1]; rfl
          go_wp2_with fail
          refine (fmul_el Ea.out Ea.out _).mono ?_
          rintro e w86 ⟨S, HS, rfl, k⟩
          replace G := Box.mk (G.out.trans k); clear k
          go_wp2_with fail
          refine (froot_yes HS.out _ HSQ.out).mono ?_
          rintro e w87 ⟨R, HR, rfl, k⟩
          replace G := Box.mk (G.out.trans k); clear k
          go_wp2_with fail
          refine (lnum_el 0 (by omega) _).mono ?_
          rintro e w88 ⟨Z2, HZ2, rfl, k⟩
          replace G := Box.mk (G.out.trans k); clear k
          go_wp2_with fail
          refine (fsub_el HZ2.out Ea.out _).mono ?_
          rintro e w89 ⟨N, HN, rfl, k⟩
          replace G := Box.mk (G.out.trans k); clear k
          have q2 : (R.toList == a.toList) = false := HR.out.other Ea.out HR1.out
          have q2n : (R.toList != a.toList) = true := by rw [bne, q2]; rfl
          have q3 : (R.toList == N.toList) = true := HR.out.same HN.out (by rw [HR2.out, Nat.zero_add])
          have q3n : (R.toList != N.toList) = false := by rw [bne, q3]; rfl
          go_wp2_with fail
          refine (froot_no Ea.out _ HOK.out).mono ?_
          rintro e w90 ⟨rfl, k⟩
          replace G := Box.mk (G.out.trans k); clear k
          go_wp2_with fail
          refine (fmul_no (a := ⟨#[]⟩) (b := ⟨#[]⟩) (by rw [isF_empty]; rfl) _).mono ?_
          rintro e w91 ⟨rfl, k⟩
          replace G := Box.mk (G.out.trans k); clear k
          go_wp2
          go_ret
          exact ⟨rfl, G.out⟩
        ·
          have HOK := Box.mk hok; clear hok
          go_enter Try.func6, Try.ntmps6
          go_wp2_with fail
          refine (Fe.fixed_any _).mono ?_
          rintro e w92 ⟨rfl, k⟩
          have G := Box.mk k; clear k
          go_wp2_with fail
          refine (Fe.is_at Ha.out _).mono ?_
          rintro e w93 ⟨rfl, k⟩
          replace G := Box.mk (G.out.trans k); clear k
          go_wp2_with fail
          refine (finv_el Ea.out _).mono ?_
          rintro e w94 ⟨B, HB, rfl, k⟩
          replace G := Box.mk (G.out.trans k); clear k
          go_wp2_with fail
          refine (fmul_el Ea.out HB.out _).mono ?_
          rintro e w95 ⟨C, HC, rfl, k⟩
          replace G := Box.mk (G.out.trans k); clear k
          go_wp2_with fail
          refine (lnum_el 1 (by omega) _).mono ?_
          rintro e w96 ⟨W1, HW1, rfl, k⟩
          replace G := Box.mk (G.out.trans k); clear k
          go_wp2_with fail
          refine (lnum_el 0 (by omega) _).mono ?_
          rintro e w97 ⟨Z1, HZ1, rfl, k⟩
          replace G := Box.mk (G.out.trans k); clear k
          have q0 : (a.toList == Z1.toList) = false := Ea.out.other HZ1.out H0.out
          have q1 : (C.toList == W1.toList) = true := HC.out.same HW1.out (inv_mul (by have := H0.out; omega) Ea.out.lt)
          have q1n : (C.toList != W1.toList) = false := by rw [bne, q1]; rfl
          go_wp2_with fail
          refine (fmul_el Ea.out Ea.out _).mono ?_
          rintro e w98 ⟨S, HS, rfl, k⟩
          replace G := Box.mk (G.out.trans k); clear k
          go_wp2_with fail
          refine (froot_yes HS.out _ HSQ.out).mono ?_
          rintro e w99 ⟨R, HR, rfl, k⟩
          replace G := Box.mk (G.out.trans k); clear k
          go_wp2_with fail
          refine (lnum_el 0 (by omega) _).mono ?_
          rintro e w100 ⟨Z2, HZ2, rfl, k⟩
          replace G := Box.mk (G.out.trans k); clear k
          go_wp2_with fail
          refine (fsub_el HZ2.out Ea.out _).mono ?_
          rintro e w101 ⟨N, HN, rfl, k⟩
          replace G := Box.mk (G.out.trans k); clear k
          have q2 : (R.toList == a.toList) = false := HR.out.other Ea.out HR1.out
          have q2n : (R.toList != a.toList) = true := by rw [bne, q2]; rfl
          have q3 : (R.toList == N.toList) = true := HR.out.same HN.out (by rw [HR2.out, Nat.zero_add])
          have q3n : (R.toList != N.toList) = false := by rw [bne, q3]; rfl
          go_wp2_with fail
          refine (froot_yes Ea.out _ HOK.out).mono ?_
          rintro e w102 ⟨T, HT, rfl, k⟩
          replace G := Box.mk (G.out.trans k); clear k
          go_wp2_with fail
          refine (fmul_el HT.out HT.out _).mono ?_
          rintro e w103 ⟨U, HU, rfl, k⟩
          replace G := Box.mk (G.out.trans k); clear k
          have q4 : (U.toList == a.toList) = true := HU.out.same Ea.out (root_back HOK.out)
          go_wp2
          go_ret
          exact ⟨rfl, G.out⟩
theorem own : ownKnob Try.prog.godebug = none := by kernel_rfl
theorem laidOut : laidOutB Try.prog = true := by kernel_rfl
set_option maxRecDepth 100000 in
theorem lifted (os : Os) (started : os.Started) (H : Type) (enc : TypeId × Value → H) :
    ReturnsInHanded {} Try.checked os 6 .any (Rows.fieldBackSpec.pre6 enc Try.prog Try.f6 Rows.fieldBackRow.domain false) (Rows.fieldBackSpec.post enc Try.prog Try.f6 false true false false) := by
  refine returnsInHanded_of_change (C := Try.checked) own started (by kernel_rfl) Try.func6
    (ChangeSpec.witness6 (enc := enc) (C := Try.checked) false ⟨#[], #[.string ⟨#[]⟩], []⟩ 8 (by kernel_rfl) (by kernel_rfl) (by kernel_rfl) (by kernel_rfl)) ?_
  intro W base args ds gs before hval0 hW hcnd _
  have hval : ∀ (j : Nat) t v, Try.f6.params[j]? = some t → args[j]? = some v → Value.okWide Try.prog W .any base t v := hval0
  have hW' := hW
  obtain ⟨p, q, hA0, hV, rfl, hfz, hnd⟩ := hW
  have hA : DataW.TrodAll enc Try.prog W 0 (fun _ => true) true Try.f6.params.toList args.toList ds p := hA0
  rw [Try.params6] at hA hval
  obtain ⟨v0, vs0, d0, ds0, p0, q0, hargs, rfl, rfl, h0, r0⟩ := trodAll_cons hA
  obtain ⟨rfl, rfl, rfl⟩ := trodAll_nil r0
  obtain rfl : args = #[v0] := by cases args; simp_all
  obtain ⟨rfl, rfl⟩ := trodVars_none hV
  obtain ⟨s0, rfl, rfl, rfl, ws0⟩ := open_string Try.underlying9 (hval 0 9 v0 rfl rfl) h0
  clear hA0 hval0
  refine (walk s0 ws0 W).mono fun e W' ⟨he, bel⟩ => ?_
  subst he
  exact ⟨_, rfl, _, _, _, [], _, [], hW', trodAll_mk1 (shut_bool Try.underlying4 _), (trodAll_cons_mk (shut_string Try.underlying9 ws0) trodAll_mk0), rfl, bel.frame _, fun h => by cases h⟩

theorem proved : Rows.FieldBackSaid :=
  OpenClaim.holds_of_wide 6 Try.f6 rfl rfl rfl rfl rfl rfl rfl ⟨rfl, rfl, rfl, rfl, rfl⟩ rfl rfl rfl rfl rfl (by kernel_rfl) Try.func6 (by kernel_rfl)
    (of_decide_eq_true (by kernel_rfl)) (by unfold Func.isWrapper; first | (rw [if_pos (by decide +kernel)]; kernel_rfl) | (rw [if_neg (by decide +kernel)]; exact ⟨rfl, rfl⟩))
    (fun os started H enc _ => lifted os started H enc)
#print axioms proved
end Go.Proofs.Ytelbgoalikkikaa.fieldBack
