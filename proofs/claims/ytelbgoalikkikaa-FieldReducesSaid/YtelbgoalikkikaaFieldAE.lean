/- Elements as numbers: the calls of the package field; num; fixed. -/
import Derived.Test.YtelbgoalikkikaaFieldAC
import Derived.Test.YtelbgoalikkikaaFieldAD
namespace Go.Proofs.Ytelbgoalikkikaa.Fe
set_option linter.unusedVariables false
open Go Go.RowKit

/-- A string is the element n's. -/
structure El (t : ByteArray) (n : Nat) : Prop where
  eq : t = sbytes n
  lt : n < fp
theorem El.num {t : ByteArray} {n : Nat} (h : El t n) : num t = n := by
  rw [h.eq, num_sbytes]; exact Nat.mod_eq_of_lt (Nat.lt_trans h.lt fp_256)
theorem El.is {t : ByteArray} {n : Nat} (h : El t n) : isF t = true := isF_mk (by rw [h.eq, sbytes_size]) (by rw [h.num]; exact h.lt)
theorem El.of {s : ByteArray} (h : isF s = true) : El s (Go.Proofs.Ytelbgoalikkikaa.num s) := ⟨(sbytes_num (isF_yes h).1).symm, (isF_yes h).2⟩
theorem El.mk' (n : Nat) : El (sbytes (n % fp)) (n % fp) := ⟨rfl, Nat.mod_lt _ fp_pos⟩
theorem El.same {s t : ByteArray} {x y : Nat} (hs : El s x) (ht : El t y) (h : x = y) : (s.toList == t.toList) = true := by
  rw [beq_toList, hs.eq, ht.eq, h]; simp
theorem El.other {s t : ByteArray} {x y : Nat} (hs : El s x) (ht : El t y) (h : x ≠ y) : (s.toList == t.toList) = false := by
  rw [beq_toList]; refine decide_eq_false fun e => h ?_
  rw [← hs.num, ← ht.num, e]
theorem El.both {a b : ByteArray} {x y : Nat} (ha : El a x) (hb : El b y) : (isF a && isF b) = true := by rw [ha.is, hb.is]; rfl
theorem el_out {F : FuncId} {args : Array Value} {w : World} {v : Value} {n : Nat} (h : Calls Try.prog F args w fun e w' => e = .returned v ∧ Gr w w') (hv : v = okS (sbytes (n % fp))) :
    Calls Try.prog F args w fun e w' => ∃ t, Box (El t (n % fp)) ∧ e = .returned (.tuple #[.string t, .int .i64 0]) ∧ Gr w w' :=
  h.mono fun e w' ⟨he, hg⟩ => ⟨_, ⟨El.mk' n⟩, by rw [he, hv]; rfl, hg⟩
theorem no_out {F : FuncId} {args : Array Value} {w : World} {v : Value} (h : Calls Try.prog F args w fun e w' => e = .returned v ∧ Gr w w') (hv : v = noS) :
    Calls Try.prog F args w fun e w' => e = .returned (.tuple #[.string ⟨#[]⟩, .int .i64 40]) ∧ Gr w w' :=
  h.mono fun e w' ⟨he, hg⟩ => ⟨by rw [he, hv]; rfl, hg⟩
section
variable {a b : ByteArray} {x y : Nat} (ha : El a x) (hb : El b y) (w : World)
include ha hb
theorem fadd_el : Calls Try.prog 10 #[.string a, .string b] w fun e w' => ∃ t, Box (El t ((x + y) % fp)) ∧ e = .returned (.tuple #[.string t, .int .i64 0]) ∧ Gr w w' :=
  el_out (fadd_any a b w) (by rw [binR_yes (ha.both hb), ha.num, hb.num])
theorem fsub_el : Calls Try.prog 12 #[.string a, .string b] w fun e w' => ∃ t, Box (El t ((x + (fp - y)) % fp)) ∧ e = .returned (.tuple #[.string t, .int .i64 0]) ∧ Gr w w' :=
  el_out (fsub_any a b w) (by rw [binR_yes (ha.both hb), ha.num, hb.num])
theorem fmul_el : Calls Try.prog 14 #[.string a, .string b] w fun e w' => ∃ t, Box (El t (x * y % fp)) ∧ e = .returned (.tuple #[.string t, .int .i64 0]) ∧ Gr w w' :=
  el_out (fmul_any a b w) (by rw [binR_yes (ha.both hb), ha.num, hb.num])
end
section
variable {a : ByteArray} {x : Nat} (ha : El a x) (w : World)
include ha
theorem finv_el : Calls Try.prog 17 #[.string a] w fun e w' => ∃ t, Box (El t (x ^ (fp - 2) % fp)) ∧ e = .returned (.tuple #[.string t, .int .i64 0]) ∧ Gr w w' :=
  el_out (finv_any a w) (by rw [uniR_yes ha.is, ha.num])
theorem froot_yes (h : (rtN x).2 = true) : Calls Try.prog 19 #[.string a] w fun e w' => ∃ t, Box (El t (rtN x).1) ∧ e = .returned (.tuple #[.string t, .bool true, .int .i64 0]) ∧ Gr w w' :=
  (froot_any a w).mono fun e w' ⟨he, hg⟩ => ⟨_, ⟨⟨rfl, rt_lt x⟩⟩, by rw [he]; unfold rootR; rw [if_pos ha.is, ha.num, if_pos h], hg⟩
theorem froot_no (h : (rtN x).2 = false) : Calls Try.prog 19 #[.string a] w fun e w' => e = .returned (.tuple #[.string ⟨#[]⟩, .bool false, .int .i64 0]) ∧ Gr w w' :=
  (froot_any a w).mono fun e w' ⟨he, hg⟩ => ⟨by rw [he]; unfold rootR; rw [if_pos ha.is, ha.num, h]; rfl, hg⟩
end
theorem fadd_no {a b : ByteArray} (h : (isF a && isF b) = false) (w : World) : Calls Try.prog 10 #[.string a, .string b] w fun e w' => e = .returned (.tuple #[.string ⟨#[]⟩, .int .i64 40]) ∧ Gr w w' := no_out (fadd_any a b w) (binR_no h)
theorem fmul_no {a b : ByteArray} (h : (isF a && isF b) = false) (w : World) : Calls Try.prog 14 #[.string a, .string b] w fun e w' => e = .returned (.tuple #[.string ⟨#[]⟩, .int .i64 40]) ∧ Gr w w' := no_out (fmul_any a b w) (binR_no h)
theorem isF_empty : isF ⟨#[]⟩ = false := by rw [isF_eq]; exact decide_eq_false fun h => absurd h.1 (by decide)
theorem fp_big2 : 4294967296 < fp := by rw [fp_eq]; decide
set_option maxRecDepth 100000 in
set_option maxHeartbeats 1000000 in
theorem lnum_el (n : Nat) (hn : n < 4294967296) (w : World) : Calls Try.prog 22 #[.int .i64 n] w fun e w' => ∃ t, Box (El t n) ∧ e = .returned (.string t) ∧ Gr w w' := by
  have HN := Box.mk hn; clear hn
  go_enter Try.func22, Try.ntmps22
  go_wp2_with fail
  refine (smallD _ n HN.out).mono ?_
  rintro e w1 ⟨rfl, hg⟩
  have HG := Box.mk hg; clear hg
  go_wp2_with fail
  refine (bytesD n _).mono ?_
  rintro e w2 ⟨rfl, hg⟩
  replace HG := Box.mk (HG.out.trans hg); clear hg
  go_wp2
  go_ret
  exact ⟨_, ⟨⟨rfl, Nat.lt_trans HN.out fp_big2⟩⟩, rfl, HG.out⟩
theorem last_val : (0 + (fp - 1)) % fp = fp - 1 := by rw [Nat.zero_add]; exact Nat.mod_eq_of_lt (by have := fp_pos; omega)
set_option maxRecDepth 100000 in
set_option maxHeartbeats 2000000 in
theorem fixed_any (w : World) : Calls Try.prog 16 #[] w fun e w' => e = .returned (.bool true) ∧ Gr w w' := by
  go_enter Try.func16, Try.ntmps16
  go_wp2_with fail
  refine (smallD _ 0 (by omega)).mono ?_
  rintro e w1 ⟨rfl, k⟩
  have G := Box.mk k; clear k
  go_wp2_with fail
  refine (smallD _ 1 (by omega)).mono ?_
  rintro e w2 ⟨rfl, k⟩
  replace G := Box.mk (G.out.trans k); clear k
  go_wp2_with fail
  refine (minusD 0 1 (dw_pos _) fp_pos _).mono ?_
  rintro e w3 ⟨rfl, k⟩
  replace G := Box.mk (G.out.trans k); clear k
  rw [last_val]
  go_wp2_with fail
  refine (bytesD (fp - 1) _).mono ?_
  rintro e w4 ⟨rfl, k⟩
  replace G := Box.mk (G.out.trans k); clear k
  obtain ⟨L, hL⟩ : ∃ L, L = sbytes (fp - 1) := ⟨_, rfl⟩
  rw [← hL]
  have HL : Box (El L (fp - 1)) := ⟨⟨hL, by have := fp_pos; omega⟩⟩
  clear hL
  go_wp2_with fail
  refine (lnum_el 2 (by omega) _).mono ?_
  rintro e w5 ⟨A2, HA2, rfl, k⟩
  replace G := Box.mk (G.out.trans k); clear k
  go_wp2_with fail
  refine (fadd_el HL.out HA2.out _).mono ?_
  rintro e w6 ⟨A, HA, rfl, k⟩
  replace G := Box.mk (G.out.trans k); clear k
  go_wp2_with fail
  refine (lnum_el 0 (by omega) _).mono ?_
  rintro e w7 ⟨B0, HB0, rfl, k⟩
  replace G := Box.mk (G.out.trans k); clear k
  go_wp2_with fail
  refine (lnum_el 1 (by omega) _).mono ?_
  rintro e w8 ⟨B1, HB1, rfl, k⟩
  replace G := Box.mk (G.out.trans k); clear k
  go_wp2_with fail
  refine (fsub_el HB0.out HB1.out _).mono ?_
  rintro e w9 ⟨B, HB, rfl, k⟩
  replace G := Box.mk (G.out.trans k); clear k
  go_wp2_with fail
  refine (lnum_el 2 (by omega) _).mono ?_
  rintro e w10 ⟨C2, HC2, rfl, k⟩
  replace G := Box.mk (G.out.trans k); clear k
  go_wp2_with fail
  refine (finv_el HC2.out _).mono ?_
  rintro e w11 ⟨C, HC, rfl, k⟩
  replace G := Box.mk (G.out.trans k); clear k
  go_wp2_with fail
  refine (lnum_el 2 (by omega) _).mono ?_
  rintro e w12 ⟨D2, HD2, rfl, k⟩
  replace G := Box.mk (G.out.trans k); clear k
  go_wp2_with fail
  refine (fmul_el HC.out HD2.out _).mono ?_
  rintro e w13 ⟨D, HD, rfl, k⟩
  replace G := Box.mk (G.out.trans k); clear k
  go_wp2_with fail
  refine (lnum_el 4 (by omega) _).mono ?_
  rintro e w14 ⟨R4, HR4, rfl, k⟩
  replace G := Box.mk (G.out.trans k); clear k
  go_wp2_with fail
  refine (froot_yes HR4.out _ (by rw [root_four])).mono ?_
  rintro e w15 ⟨R, HR, rfl, k⟩
  replace G := Box.mk (G.out.trans k); clear k
  go_wp2_with fail
  refine (lnum_el 2 (by omega) _).mono ?_
  rintro e w16 ⟨R2, HR2, rfl, k⟩
  replace G := Box.mk (G.out.trans k); clear k
  go_wp2_with fail
  refine (froot_no HR2.out _ root_two).mono ?_
  rintro e w90 ⟨rfl, k⟩
  replace G := Box.mk (G.out.trans k); clear k
  go_wp2_with fail
  refine (lnum_el 1 (by omega) _).mono ?_
  rintro e w17 ⟨K1, HK1, rfl, k⟩
  replace G := Box.mk (G.out.trans k); clear k
  go_wp2_with fail
  refine (fadd_no (a := ⟨#[]⟩) (b := K1) (by rw [isF_empty]; rfl) _).mono ?_
  rintro e w91 ⟨rfl, k⟩
  replace G := Box.mk (G.out.trans k); clear k
  go_wp2_with fail
  refine (lnum_el 1 (by omega) _).mono ?_
  rintro e w18 ⟨M1, HM1, rfl, k⟩
  replace G := Box.mk (G.out.trans k); clear k
  have q1 : (A.toList == M1.toList) = true := HA.out.same HM1.out (by rw [show fp - 1 + 2 = 1 + fp by have := two_lt_fp; omega, Nat.add_mod_right]; exact one_mod)
  have q2 : (B.toList == L.toList) = true := HB.out.same HL.out last_val
  go_wp2_with fail
  refine (lnum_el 1 (by omega) _).mono ?_
  rintro e w19 ⟨M2, HM2, rfl, k⟩
  replace G := Box.mk (G.out.trans k); clear k
  have q3 : (D.toList == M2.toList) = true := HD.out.same HM2.out (by rw [Nat.mul_comm]; exact inv_mul (by omega) two_lt_fp)
  go_wp2_with fail
  refine (lnum_el 2 (by omega) _).mono ?_
  rintro e w20 ⟨M3, HM3, rfl, k⟩
  replace G := Box.mk (G.out.trans k); clear k
  have q4 : (R.toList == M3.toList) = true := HR.out.same HM3.out (by rw [root_four])
  go_wp2_with fail
  refine (is_at HL.out.is _).mono ?_
  rintro e w92 ⟨rfl, k⟩
  replace G := Box.mk (G.out.trans k); clear k
  go_wp2_with fail
  refine (pD _).mono ?_
  rintro e w93 ⟨rfl, k⟩
  replace G := Box.mk (G.out.trans k); clear k
  go_wp2_with fail
  refine (bytesD fp _).mono ?_
  rintro e w94 ⟨rfl, k⟩
  replace G := Box.mk (G.out.trans k); clear k
  have hno : isF (sbytes fp) = false := by
    rw [isF_eq]; refine decide_eq_false fun h => ?_
    have := h.2; rw [num_sbytes, Nat.mod_eq_of_lt fp_256] at this; omega
  have HNO := Box.mk hno; clear hno
  go_wp2_with fail
  refine (is_at HNO.out _).mono ?_
  rintro e w95 ⟨rfl, k⟩
  replace G := Box.mk (G.out.trans k); clear k
  go_wp2
  go_ret
  exact ⟨rfl, G.out⟩
end Go.Proofs.Ytelbgoalikkikaa.Fe