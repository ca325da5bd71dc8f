/- The curve, plainly: on points over the field of 2^255 - 19 the sum is a group's. -/
import Derived.Test.YtafhncpaoolljaaGreatM26
namespace Go.Proofs.YtafhncpaoolljaaGreat.Fe
set_option maxRecDepth 100000
set_option linter.unusedVariables false
open Go Go.RowKit Num
instance fpNeZero : NeZero fp := ⟨by have := fp_pos; omega⟩
abbrev F := Fin fp
def fv (n : Nat) : F := Fin.ofNat fp n
theorem fv_val (n : Nat) : (fv n).val = n % fp := rfl
theorem fv_eq {a b : Nat} (h : a % fp = b % fp) : fv a = fv b := Fin.ext h
theorem fv_of (x : F) : fv x.val = x := Fin.ext (Nat.mod_eq_of_lt x.isLt)
theorem fv_add (a b : Nat) : fv (a + b) = fv a + fv b := Fin.ext (by simp [fv, Fin.val_add])
theorem fv_mul (a b : Nat) : fv (a * b) = fv a * fv b := Fin.ext (by simp [fv, Fin.val_mul])
theorem fv_mod (a : Nat) : fv (a % fp) = fv a := fv_eq (Nat.mod_mod _ _)
theorem fv_zero : fv 0 = 0 := rfl
theorem fv_one : fv 1 = 1 := rfl
theorem fv_fp : fv fp = 0 := Fin.ext (by rw [fv_val, Nat.mod_self]; rfl)
theorem fv_sub {a b : Nat} (h : b ≤ fp) : fv (a + (fp - b)) = fv a - fv b := by
 have h1 : fv (a + (fp - b)) + fv b = fv a := by rw [← fv_add, show a + (fp - b) + b = a + fp by omega, fv_add, fv_fp]; grind
 grind
theorem one_ne : (1 : F) ≠ 0 := fun h => by
 have := congrArg Fin.val h
 rw [show (1 : F).val = 1 % fp from rfl, one_mod] at this; cases this
theorem f_mul_zero {a b : F} (h : a * b = 0) : a = 0 ∨ b = 0 := by
 have h1 : a.val * b.val % fp = 0 := by have := congrArg Fin.val h; rwa [Fin.val_mul] at this
 rcases mul_zero_f a.isLt b.isLt h1 with h | h
 · exact .inl (Fin.ext h)
 · exact .inr (Fin.ext h)
theorem f_mul_ne {a b : F} (ha : a ≠ 0) (hb : b ≠ 0) : a * b ≠ 0 := fun h => (f_mul_zero h).elim ha hb
def fi (a : F) : F := fv (a.val ^ (fp - 2))
theorem fi_mul {a : F} (h : a ≠ 0) : a * fi a = 1 := by
 have h0 : 0 < a.val := Nat.pos_of_ne_zero fun e => h (Fin.ext e)
 refine Fin.ext ?_
 rw [Fin.val_mul]
 show a.val * (a.val ^ (fp - 2) % fp) % fp = 1 % fp
 rw [inv_mul h0 a.isLt, one_mod]
theorem f_cancel {a x y : F} (h : a ≠ 0) (e : a * x = a * y) : x = y := by
 have h1 := fi_mul h
 have h2 : fi a * (a * x) = fi a * (a * y) := by rw [e]
 have k : ∀ z, fi a * (a * z) = z := fun z => by
   have : fi a * (a * z) = a * fi a * z := by grind
   rw [this, h1]; grind
 rwa [k, k] at h2
@[irreducible] def dN : Nat := 37095705934669439343138083508754565189542113879843219016388785533085940283555
theorem dN_eq : dN = 37095705934669439343138083508754565189542113879843219016388785533085940283555 := by unfold dN; first | done | rfl
theorem dN_lt : dN < fp := by rw [dN_eq, fp_eq]; decide
def cd : F := fv dN
theorem fv_pow (a n : Nat) : ∀ r : F, r = fv a → (fv (a ^ n)).val = r.val ^ n % fp := fun r h => by
 rw [h, fv_val, fv_val, ← Nat.pow_mod]
theorem dN_half : dN ^ hL % fp = fp - 1 := pw_comp hL_lt (by rw [fp_eq, hL_eq, dN_eq]; decide +kernel)
theorem cd_no (r : F) : r * r ≠ cd := fun h => by
 have h1 : r.val * r.val % fp = dN := by
   have := congrArg Fin.val h
   rw [Fin.val_mul] at this
   rw [this]; show dN % fp = dN; exact Nat.mod_eq_of_lt dN_lt
 have h0 : 0 < r.val := Nat.pos_of_ne_zero fun e => by
   rw [e, Nat.mul_zero, Nat.zero_mod] at h1
   rw [dN_eq] at h1; cases h1
 have h2 := no_root h1 h0 r.isLt (k := hL) (by have := hL_two; omega)
 rw [dN_half] at h2
 have := two_lt_fp; omega
theorem cd_sq {r s : F} (hs : s ≠ 0) (h : r * r = cd * (s * s)) : False := by
 refine cd_no (r * fi s) ?_
 have h1 := fi_mul hs
 have : r * fi s * (r * fi s) = r * r * (fi s * fi s) := by grind
 rw [this, h]
 have e2 : cd * (s * s) * (fi s * fi s) = cd * (s * fi s) * (s * fi s) := by grind
 rw [e2, h1]; grind
def fI : F := fv (2 ^ n1)
theorem one_val : (1 : F).val = 1 % fp := rfl
theorem zero_val : (0 : F).val = 0 := rfl
theorem sq_neg (t : Nat) (h : t % fp * (t % fp) % fp = fp - 1) : fv t * fv t + 1 = 0 := by
 refine Fin.ext ?_
 rw [Fin.val_add, Fin.val_mul, fv_val, one_val, h, one_mod, show fp - 1 + 1 = fp by have := fp_pos; omega, Nat.mod_self, zero_val]
theorem fI_sq : fI * fI = -1 := by
 have h1 : fI * fI + 1 = 0 := sq_neg (2 ^ n1) n1_two
 generalize fI = t at h1 ⊢
 grind
theorem two_ne : (2 : F) ≠ 0 := fun h => by
 have := congrArg Fin.val h
 rw [show (2 : F).val = 2 % fp from rfl, Nat.mod_eq_of_lt two_lt_fp] at this; cases this
def On (x y : F) : Prop := cd * x * x * y * y + 1 + x * x - y * y = 0
theorem comp_p (d x1 y1 x2 y2 i e : F) (h1 : d * x1 * x1 * y1 * y1 + 1 + x1 * x1 - y1 * y1 = 0) (h2 : d * x2 * x2 * y2 * y2 + 1 + x2 * x2 - y2 * y2 = 0) (h3 : i * i + 1 = 0) (h4 : e * e - 1 = 0) (h5 : d * x1 * x2 * y1 * y2 - e = 0) :
   (i * x1 + e * y1) * (i * x1 + e * y1) = d * (x1 * y1 * (i * x2 + y2) * (x1 * y1 * (i * x2 + y2))) := by
 have k : (i * x1 + e * y1) * (i * x1 + e * y1) - d * (x1 * y1 * (i * x2 + y2) * (x1 * y1 * (i * x2 + y2))) =
     (d * x2 * x2 * y2 * y2 - x2 * x2 * i * i - y2 * y2) * (d * x1 * x1 * y1 * y1 + 1 + x1 * x1 - y1 * y1) + (-x1 * x1 + y1 * y1 - 1) * (d * x2 * x2 * y2 * y2 + 1 + x2 * x2 - y2 * y2) + (x1 * x1 * x2 * x2 - y1 * y1 * x2 * x2 + x1 * x1 + x2 * x2) * (i * i + 1) + (y1 * y1 - 1) * (e * e - 1) + (-d * x1 * y1 * x2 * y2 - 2 * x1 * y1 * i - e) * (d * x1 * x2 * y1 * y2 - e) := by grind
 rw [h1, h2, h3, h4, h5] at k
 grind
theorem comp_m (d x1 y1 x2 y2 i e : F) (h1 : d * x1 * x1 * y1 * y1 + 1 + x1 * x1 - y1 * y1 = 0) (h2 : d * x2 * x2 * y2 * y2 + 1 + x2 * x2 - y2 * y2 = 0) (h3 : i * i + 1 = 0) (h4 : e * e - 1 = 0) (h5 : d * x1 * x2 * y1 * y2 - e = 0) :
   (-i * x1 + e * y1) * (-i * x1 + e * y1) = d * (x1 * y1 * (-i * x2 + y2) * (x1 * y1 * (-i * x2 + y2))) := by
 have k : (-i * x1 + e * y1) * (-i * x1 + e * y1) - d * (x1 * y1 * (-i * x2 + y2) * (x1 * y1 * (-i * x2 + y2))) =
     (d * x2 * x2 * y2 * y2 - x2 * x2 * i * i - y2 * y2) * (d * x1 * x1 * y1 * y1 + 1 + x1 * x1 - y1 * y1) + (-x1 * x1 + y1 * y1 - 1) * (d * x2 * x2 * y2 * y2 + 1 + x2 * x2 - y2 * y2) + (x1 * x1 * x2 * x2 - y1 * y1 * x2 * x2 + x1 * x1 + x2 * x2) * (i * i + 1) + (y1 * y1 - 1) * (e * e - 1) + (-d * x1 * y1 * x2 * y2 + 2 * x1 * y1 * i - e) * (d * x1 * x2 * y1 * y2 - e) := by grind
 rw [h1, h2, h3, h4, h5] at k
 grind
theorem complete {x1 y1 x2 y2 e : F} (h1 : On x1 y1) (h2 : On x2 y2) (he : e * e = 1) (h : cd * x1 * x2 * y1 * y2 = e) : False := by
 have h3 : fI * fI + 1 = 0 := by rw [fI_sq]; grind
 have h4 : e * e - 1 = 0 := by rw [he]; grind
 have h5 : cd * x1 * x2 * y1 * y2 - e = 0 := by rw [h]; grind
 have e0 : e ≠ 0 := fun hz => by rw [hz] at he; exact one_ne (by rw [← he]; grind)
 have hx1 : x1 ≠ 0 := fun hz => e0 (by rw [← h, hz]; grind)
 have hy1 : y1 ≠ 0 := fun hz => e0 (by rw [← h, hz]; grind)
 have hx2 : x2 ≠ 0 := fun hz => e0 (by rw [← h, hz]; grind)
 have hxy := f_mul_ne hx1 hy1
 by_cases ha : fI * x2 + y2 = 0
 · by_cases hb : -fI * x2 + y2 = 0
   · have h6 : 2 * (fI * x2) = 0 := by
       have : 2 * (fI * x2) = (fI * x2 + y2) - (-fI * x2 + y2) := by grind
       rw [this, ha, hb]; grind
     rcases f_mul_zero h6 with h | h
     · exact two_ne h
     · rcases f_mul_zero h with h | h
       · have := fI_sq
         rw [h] at this
         exact one_ne (by grind)
       · exact hx2 h
   · exact cd_sq (f_mul_ne hxy hb) (comp_m cd x1 y1 x2 y2 fI e h1 h2 h3 h4 h5)
 · exact cd_sq (f_mul_ne hxy ha) (comp_p cd x1 y1 x2 y2 fI e h1 h2 h3 h4 h5)
def ck (x1 y1 x2 y2 : F) : F := cd * x1 * x2 * y1 * y2
theorem np_ne {x1 y1 x2 y2 : F} (h1 : On x1 y1) (h2 : On x2 y2) : 1 + ck x1 y1 x2 y2 ≠ 0 := fun h =>
 complete h1 h2 (e := -1) (by grind) (by have : ck x1 y1 x2 y2 = -1 := by grind
                                         exact this)
theorem nm_ne {x1 y1 x2 y2 : F} (h1 : On x1 y1) (h2 : On x2 y2) : 1 - ck x1 y1 x2 y2 ≠ 0 := fun h =>
 complete h1 h2 (e := 1) (by grind) (by have : ck x1 y1 x2 y2 = 1 := by grind
                                        exact this)
def sx (x1 y1 x2 y2 : F) : F := (x1 * y2 + y1 * x2) * fi (1 + ck x1 y1 x2 y2)
def sy (x1 y1 x2 y2 : F) : F := (y1 * y2 + x1 * x2) * fi (1 - ck x1 y1 x2 y2)
theorem sx_mul {x1 y1 x2 y2 : F} (h1 : On x1 y1) (h2 : On x2 y2) : sx x1 y1 x2 y2 * (1 + ck x1 y1 x2 y2) = x1 * y2 + y1 * x2 := by
 have h := fi_mul (np_ne h1 h2)
 unfold sx
 generalize 1 + ck x1 y1 x2 y2 = n at h ⊢
 generalize fi n = m at h ⊢
 have : (x1 * y2 + y1 * x2) * m * n = (x1 * y2 + y1 * x2) * (n * m) := by grind
 rw [this, h]; grind
theorem sy_mul {x1 y1 x2 y2 : F} (h1 : On x1 y1) (h2 : On x2 y2) : sy x1 y1 x2 y2 * (1 - ck x1 y1 x2 y2) = y1 * y2 + x1 * x2 := by
 have h := fi_mul (nm_ne h1 h2)
 unfold sy
 generalize 1 - ck x1 y1 x2 y2 = n at h ⊢
 generalize fi n = m at h ⊢
 have : (y1 * y2 + x1 * x2) * m * n = (y1 * y2 + x1 * x2) * (n * m) := by grind
 rw [this, h]; grind
theorem clos_id (d x1 y1 x2 y2 : F) (h1 : d * x1 * x1 * y1 * y1 + 1 + x1 * x1 - y1 * y1 = 0) (h2 : d * x2 * x2 * y2 * y2 + 1 + x2 * x2 - y2 * y2 = 0) : d * (x1 * y2 + y1 * x2) * (x1 * y2 + y1 * x2) * (y1 * y2 + x1 * x2) * (y1 * y2 + x1 * x2) + (1 + d * x1 * x2 * y1 * y2) * (1 + d * x1 * x2 * y1 * y2) * (1 - d * x1 * x2 * y1 * y2) * (1 - d * x1 * x2 * y1 * y2) + (x1 * y2 + y1 * x2) * (x1 * y2 + y1 * x2) * (1 - d * x1 * x2 * y1 * y2) * (1 - d * x1 * x2 * y1 * y2) - (y1 * y2 + x1 * x2) * (y1 * y2 + x1 * x2) * (1 + d * x1 * x2 * y1 * y2) * (1 + d * x1 * x2 * y1 * y2) = 0 := by
 have k : d * (x1 * y2 + y1 * x2) * (x1 * y2 + y1 * x2) * (y1 * y2 + x1 * x2) * (y1 * y2 + x1 * x2) + (1 + d * x1 * x2 * y1 * y2) * (1 + d * x1 * x2 * y1 * y2) * (1 - d * x1 * x2 * y1 * y2) * (1 - d * x1 * x2 * y1 * y2) + (x1 * y2 + y1 * x2) * (x1 * y2 + y1 * x2) * (1 - d * x1 * x2 * y1 * y2) * (1 - d * x1 * x2 * y1 * y2) - (y1 * y2 + x1 * x2) * (y1 * y2 + x1 * x2) * (1 + d * x1 * x2 * y1 * y2) * (1 + d * x1 * x2 * y1 * y2) =
     (d * d * d * x1 * x1 * y1 * y1 * x2 * x2 * x2 * x2 * y2 * y2 * y2 * y2 - d * d * x1 * x1 * x2 * x2 * x2 * x2 * y2 * y2 * y2 * y2 + d * d * y1 * y1 * x2 * x2 * x2 * x2 * y2 * y2 * y2 * y2 - d * d * x2 * x2 * x2 * x2 * y2 * y2 * y2 * y2 - d * x1 * x1 * x2 * x2 * x2 * x2 * y2 * y2 + d * x1 * x1 * x2 * x2 * y2 * y2 * y2 * y2 + d * y1 * y1 * x2 * x2 * x2 * x2 * y2 * y2 - d * y1 * y1 * x2 * x2 * y2 * y2 * y2 * y2 - 2 * d * x2 * x2 * x2 * x2 * y2 * y2 * y2 * y2 - 2 * x2 * x2 * x2 * x2 * y2 * y2 + 2 * x2 * x2 * y2 * y2 * y2 * y2 - 2 * d * x2 * x2 * y2 * y2 + x2 * x2 * x2 * x2 - 4 * x2 * x2 * y2 * y2 + y2 * y2 * y2 * y2) * (d * x1 * x1 * y1 * y1 + 1 + x1 * x1 - y1 * y1) + (d * x1 * x1 * x1 * x1 * x2 * x2 * y2 * y2 + d * y1 * y1 * y1 * y1 * x2 * x2 * y2 * y2 + 2 * d * x1 * x1 * x2 * x2 * y2 * y2 - 2 * d * y1 * y1 * x2 * x2 * y2 * y2 + 2 * x1 * x1 * x2 * x2 * y2 * y2 - 2 * y1 * y1 * x2 * x2 * y2 * y2 + d * x2 * x2 * y2 * y2 - x1 * x1 * x2 * x2 + x1 * x1 * y2 * y2 + y1 * y1 * x2 * x2 - y1 * y1 * y2 * y2 + 2 * x2 * x2 * y2 * y2 - x2 * x2 + y2 * y2 + 1) * (d * x2 * x2 * y2 * y2 + 1 + x2 * x2 - y2 * y2) := by grind
 rw [k, h1, h2]; grind
theorem on_sum {x1 y1 x2 y2 : F} (h1 : On x1 y1) (h2 : On x2 y2) : On (sx x1 y1 x2 y2) (sy x1 y1 x2 y2) := by
 have ha := sx_mul h1 h2
 have hb := sy_mul h1 h2
 have hn := np_ne h1 h2
 have hm := nm_ne h1 h2
 have hc := clos_id cd x1 y1 x2 y2 h1 h2
 unfold On
 generalize sx x1 y1 x2 y2 = a at ha ⊢
 generalize sy x1 y1 x2 y2 = b at hb ⊢
 unfold ck at ha hb hn hm
 rw [← ha, ← hb] at hc
 generalize 1 + cd * x1 * x2 * y1 * y2 = n at hc hn
 generalize 1 - cd * x1 * x2 * y1 * y2 = m at hc hm
 have k : (n * n * m * m) * (cd * a * a * b * b + 1 + a * a - b * b) = 0 := by
   rw [← hc]; grind
 rcases f_mul_zero k with h | h
 · exact absurd h (f_mul_ne (f_mul_ne (f_mul_ne hn hn) hm) hm)
 · exact h
theorem sum_comm (x1 y1 x2 y2 : F) : sx x1 y1 x2 y2 = sx x2 y2 x1 y1 ∧ sy x1 y1 x2 y2 = sy x2 y2 x1 y1 := by
 have hk : ck x1 y1 x2 y2 = ck x2 y2 x1 y1 := by unfold ck; grind
 unfold sx sy
 rw [hk]
 exact ⟨by congr 1; grind, by congr 1; grind⟩
theorem on_zero : On 0 1 := by unfold On; grind
theorem fi_one : fi 1 = 1 := by
 have := fi_mul one_ne
 grind
theorem sum_zero (x y : F) : sx x y 0 1 = x ∧ sy x y 0 1 = y := by
 have hk : ck x y 0 1 = 0 := by unfold ck; grind
 unfold sx sy
 rw [hk, show (1 : F) + 0 = 1 by grind, show (1 : F) - 0 = 1 by grind, fi_one]
 exact ⟨by grind, by grind⟩
theorem assoc_x (d x1 y1 x2 y2 x3 y3 : F) (h1 : d * x1 * x1 * y1 * y1 + 1 + x1 * x1 - y1 * y1 = 0) (h2 : d * x2 * x2 * y2 * y2 + 1 + x2 * x2 - y2 * y2 = 0) (h3 : d * x3 * x3 * y3 * y3 + 1 + x3 * x3 - y3 * y3 = 0) :
   ((x1 * y2 + y1 * x2) * (1 - d * x1 * x2 * y1 * y2) * y3 + (y1 * y2 + x1 * x2) * (1 + d * x1 * x2 * y1 * y2) * x3) * ((1 + d * x2 * x3 * y2 * y3) * (1 - d * x2 * x3 * y2 * y3) + d * x1 * y1 * ((x2 * y3 + y2 * x3) * (y2 * y3 + x2 * x3))) = (x1 * ((y2 * y3 + x2 * x3) * (1 + d * x2 * x3 * y2 * y3)) + y1 * ((x2 * y3 + y2 * x3) * (1 - d * x2 * x3 * y2 * y3))) * ((1 + d * x1 * x2 * y1 * y2) * (1 - d * x1 * x2 * y1 * y2) + d * (x1 * y2 + y1 * x2) * (y1 * y2 + x1 * x2) * x3 * y3) := by
 have k : ((x1 * y2 + y1 * x2) * (1 - d * x1 * x2 * y1 * y2) * y3 + (y1 * y2 + x1 * x2) * (1 + d * x1 * x2 * y1 * y2) * x3) * ((1 + d * x2 * x3 * y2 * y3) * (1 - d * x2 * x3 * y2 * y3) + d * x1 * y1 * ((x2 * y3 + y2 * x3) * (y2 * y3 + x2 * x3))) - (x1 * ((y2 * y3 + x2 * x3) * (1 + d * x2 * x3 * y2 * y3)) + y1 * ((x2 * y3 + y2 * x3) * (1 - d * x2 * x3 * y2 * y3))) * ((1 + d * x1 * x2 * y1 * y2) * (1 - d * x1 * x2 * y1 * y2) + d * (x1 * y2 + y1 * x2) * (y1 * y2 + x1 * x2) * x3 * y3) =
     (d * d * x1 * x2 * x2 * x2 * x2 * y2 * y2 * y2 * x3 * x3 * y3 + d * d * x1 * x2 * x2 * x2 * y2 * y2 * y2 * y2 * x3 * y3 * y3 - d * d * y1 * x2 * x2 * x2 * x2 * y2 * y2 * y2 * x3 * y3 * y3 - d * d * y1 * x2 * x2 * x2 * y2 * y2 * y2 * y2 * x3 * x3 * y3 + d * x1 * x2 * x2 * x2 * x2 * y2 * x3 * x3 * y3 + d * x1 * x2 * x2 * x2 * y2 * y2 * x3 * x3 * x3 - d * x1 * x2 * x2 * y2 * y2 * y2 * y3 * y3 * y3 - d * x1 * x2 * y2 * y2 * y2 * y2 * x3 * y3 * y3 - d * y1 * x2 * x2 * x2 * x2 * y2 * x3 * y3 * y3 - d * y1 * x2 * x2 * x2 * y2 * y2 * y3 * y3 * y3 + d * y1 * x2 * x2 * y2 * y2 * y2 * x3 * x3 * x3 + d * y1 * x2 * y2 * y2 * y2 * y2 * x3 * x3 * y3 + d * x1 * x2 * x2 * x2 * y2 * y2 * x3 + d * x1 * x2 * x2 * y2 * y2 * y2 * y3 + d * y1 * x2 * x2 * x2 * y2 * y2 * y3 + d * y1 * x2 * x2 * y2 * y2 * y2 * x3) * (d * x1 * x1 * y1 * y1 + 1 + x1 * x1 - y1 * y1) + (-d * d * x1 * x1 * y1 * x2 * x2 * y2 * x3 * x3 * x3 * y3 * y3 + d * d * x1 * x1 * y1 * x2 * y2 * y2 * x3 * x3 * y3 * y3 * y3 + d * d * x1 * y1 * y1 * x2 * x2 * y2 * x3 * x3 * y3 * y3 * y3 - d * d * x1 * y1 * y1 * x2 * y2 * y2 * x3 * x3 * x3 * y3 * y3 - d * x1 * x1 * x1 * x2 * x2 * y2 * x3 * x3 * y3 - d * x1 * x1 * x1 * x2 * y2 * y2 * x3 * y3 * y3 - d * x1 * x1 * x1 * x2 * x3 * x3 * x3 * y3 * y3 - d * x1 * x1 * x1 * y2 * x3 * x3 * y3 * y3 * y3 + d * x1 * x1 * y1 * x2 * x2 * y2 * x3 * y3 * y3 + d * x1 * x1 * y1 * x2 * y2 * y2 * x3 * x3 * y3 - d * x1 * x1 * y1 * x2 * x3 * x3 * y3 * y3 * y3 - d * x1 * x1 * y1 * y2 * x3 * x3 * x3 * y3 * y3 + d * x1 * y1 * y1 * x2 * x2 * y2 * x3 * x3 * y3 + d * x1 * y1 * y1 * x2 * y2 * y2 * x3 * y3 * y3 + d * x1 * y1 * y1 * x2 * x3 * x3 * x3 * y3 * y3 + d * x1 * y1 * y1 * y2 * x3 * x3 * y3 * y3 * y3 - d * y1 * y1 * y1 * x2 * x2 * y2 * x3 * y3 * y3 - d * y1 * y1 * y1 * x2 * y2 * y2 * x3 * x3 * y3 + d * y1 * y1 * y1 * x2 * x3 * x3 * y3 * y3 * y3 + d * y1 * y1 * y1 * y2 * x3 * x3 * x3 * y3 * y3 - d * x1 * x2 * x2 * y2 * x3 * x3 * y3 - d * x1 * x2 * y2 * y2 * x3 * y3 * y3 - d * x1 * x2 * x3 * x3 * x3 * y3 * y3 - d * x1 * y2 * x3 * x3 * y3 * y3 * y3 + d * y1 * x2 * x2 * y2 * x3 * y3 * y3 + d * y1 * x2 * y2 * y2 * x3 * x3 * y3 - d * y1 * x2 * x3 * x3 * y3 * y3 * y3 - d * y1 * y2 * x3 * x3 * x3 * y3 * y3 - x1 * x1 * x1 * x2 * x3 * x3 * x3 + x1 * x1 * x1 * x2 * x3 * y3 * y3 - x1 * x1 * x1 * y2 * x3 * x3 * y3 + x1 * x1 * x1 * y2 * y3 * y3 * y3 - x1 * x1 * y1 * x2 * x3 * x3 * y3 + x1 * x1 * y1 * x2 * y3 * y3 * y3 - x1 * x1 * y1 * y2 * x3 * x3 * x3 + x1 * x1 * y1 * y2 * x3 * y3 * y3 + x1 * y1 * y1 * x2 * x3 * x3 * x3 - x1 * y1 * y1 * x2 * x3 * y3 * y3 + x1 * y1 * y1 * y2 * x3 * x3 * y3 - x1 * y1 * y1 * y2 * y3 * y3 * y3 + y1 * y1 * y1 * x2 * x3 * x3 * y3 - y1 * y1 * y1 * x2 * y3 * y3 * y3 + y1 * y1 * y1 * y2 * x3 * x3 * x3 - y1 * y1 * y1 * y2 * x3 * y3 * y3 - x1 * x1 * x1 * x2 * x3 - x1 * x1 * x1 * y2 * y3 - x1 * x1 * y1 * x2 * y3 - x1 * x1 * y1 * y2 * x3 + x1 * y1 * y1 * x2 * x3 + x1 * y1 * y1 * y2 * y3 - x1 * x2 * x3 * x3 * x3 + x1 * x2 * x3 * y3 * y3 - x1 * y2 * x3 * x3 * y3 + x1 * y2 * y3 * y3 * y3 + y1 * y1 * y1 * x2 * y3 + y1 * y1 * y1 * y2 * x3 - y1 * x2 * x3 * x3 * y3 + y1 * x2 * y3 * y3 * y3 - y1 * y2 * x3 * x3 * x3 + y1 * y2 * x3 * y3 * y3 - x1 * x2 * x3 - x1 * y2 * y3 - y1 * x2 * y3 - y1 * y2 * x3) * (d * x2 * x2 * y2 * y2 + 1 + x2 * x2 - y2 * y2) + (d * x1 * x1 * y1 * x2 * x2 * y2 * x3 - d * x1 * x1 * y1 * x2 * y2 * y2 * y3 - d * x1 * y1 * y1 * x2 * x2 * y2 * y3 + d * x1 * y1 * y1 * x2 * y2 * y2 * x3 + x1 * x1 * x1 * x2 * x2 * x2 * x3 + x1 * x1 * x1 * x2 * x2 * y2 * y3 - x1 * x1 * x1 * x2 * y2 * y2 * x3 - x1 * x1 * x1 * y2 * y2 * y2 * y3 + x1 * x1 * y1 * x2 * x2 * x2 * y3 + x1 * x1 * y1 * x2 * x2 * y2 * x3 - x1 * x1 * y1 * x2 * y2 * y2 * y3 - x1 * x1 * y1 * y2 * y2 * y2 * x3 - x1 * y1 * y1 * x2 * x2 * x2 * x3 - x1 * y1 * y1 * x2 * x2 * y2 * y3 + x1 * y1 * y1 * x2 * y2 * y2 * x3 + x1 * y1 * y1 * y2 * y2 * y2 * y3 - y1 * y1 * y1 * x2 * x2 * x2 * y3 - y1 * y1 * y1 * x2 * x2 * y2 * x3 + y1 * y1 * y1 * x2 * y2 * y2 * y3 + y1 * y1 * y1 * y2 * y2 * y2 * x3 + x1 * x1 * x1 * x2 * x3 + x1 * x1 * x1 * y2 * y3 + x1 * x1 * y1 * x2 * y3 + x1 * x1 * y1 * y2 * x3 - x1 * y1 * y1 * x2 * x3 - x1 * y1 * y1 * y2 * y3 + x1 * x2 * x2 * x2 * x3 + x1 * x2 * x2 * y2 * y3 - x1 * x2 * y2 * y2 * x3 - x1 * y2 * y2 * y2 * y3 - y1 * y1 * y1 * x2 * y3 - y1 * y1 * y1 * y2 * x3 + y1 * x2 * x2 * x2 * y3 + y1 * x2 * x2 * y2 * x3 - y1 * x2 * y2 * y2 * y3 - y1 * y2 * y2 * y2 * x3 + x1 * x2 * x3 + x1 * y2 * y3 + y1 * x2 * y3 + y1 * y2 * x3) * (d * x3 * x3 * y3 * y3 + 1 + x3 * x3 - y3 * y3) := by grind
 rw [h1, h2, h3] at k
 grind
theorem assoc_y (d x1 y1 x2 y2 x3 y3 : F) (h1 : d * x1 * x1 * y1 * y1 + 1 + x1 * x1 - y1 * y1 = 0) (h2 : d * x2 * x2 * y2 * y2 + 1 + x2 * x2 - y2 * y2 = 0) (h3 : d * x3 * x3 * y3 * y3 + 1 + x3 * x3 - y3 * y3 = 0) :
   ((y1 * y2 + x1 * x2) * (1 + d * x1 * x2 * y1 * y2) * y3 + (x1 * y2 + y1 * x2) * (1 - d * x1 * x2 * y1 * y2) * x3) * ((1 + d * x2 * x3 * y2 * y3) * (1 - d * x2 * x3 * y2 * y3) - d * x1 * y1 * ((x2 * y3 + y2 * x3) * (y2 * y3 + x2 * x3))) = (y1 * ((y2 * y3 + x2 * x3) * (1 + d * x2 * x3 * y2 * y3)) + x1 * ((x2 * y3 + y2 * x3) * (1 - d * x2 * x3 * y2 * y3))) * ((1 + d * x1 * x2 * y1 * y2) * (1 - d * x1 * x2 * y1 * y2) - d * (x1 * y2 + y1 * x2) * (y1 * y2 + x1 * x2) * x3 * y3) := by
 have k : ((y1 * y2 + x1 * x2) * (1 + d * x1 * x2 * y1 * y2) * y3 + (x1 * y2 + y1 * x2) * (1 - d * x1 * x2 * y1 * y2) * x3) * ((1 + d * x2 * x3 * y2 * y3) * (1 - d * x2 * x3 * y2 * y3) - d * x1 * y1 * ((x2 * y3 + y2 * x3) * (y2 * y3 + x2 * x3))) - (y1 * ((y2 * y3 + x2 * x3) * (1 + d * x2 * x3 * y2 * y3)) + x1 * ((x2 * y3 + y2 * x3) * (1 - d * x2 * x3 * y2 * y3))) * ((1 + d * x1 * x2 * y1 * y2) * (1 - d * x1 * x2 * y1 * y2) - d * (x1 * y2 + y1 * x2) * (y1 * y2 + x1 * x2) * x3 * y3) =
     (-d * d * x1 * x2 * x2 * x2 * x2 * y2 * y2 * y2 * x3 * y3 * y3 - d * d * x1 * x2 * x2 * x2 * y2 * y2 * y2 * y2 * x3 * x3 * y3 + d * d * y1 * x2 * x2 * x2 * x2 * y2 * y2 * y2 * x3 * x3 * y3 + d * d * y1 * x2 * x2 * x2 * y2 * y2 * y2 * y2 * x3 * y3 * y3 - d * x1 * x2 * x2 * x2 * x2 * y2 * x3 * y3 * y3 - d * x1 * x2 * x2 * x2 * y2 * y2 * y3 * y3 * y3 + d * x1 * x2 * x2 * y2 * y2 * y2 * x3 * x3 * x3 + d * x1 * x2 * y2 * y2 * y2 * y2 * x3 * x3 * y3 + d * y1 * x2 * x2 * x2 * x2 * y2 * x3 * x3 * y3 + d * y1 * x2 * x2 * x2 * y2 * y2 * x3 * x3 * x3 - d * y1 * x2 * x2 * y2 * y2 * y2 * y3 * y3 * y3 - d * y1 * x2 * y2 * y2 * y2 * y2 * x3 * y3 * y3 + d * x1 * x2 * x2 * x2 * y2 * y2 * y3 + d * x1 * x2 * x2 * y2 * y2 * y2 * x3 + d * y1 * x2 * x2 * x2 * y2 * y2 * x3 + d * y1 * x2 * x2 * y2 * y2 * y2 * y3) * (d * x1 * x1 * y1 * y1 + 1 + x1 * x1 - y1 * y1) + (-d * d * x1 * x1 * y1 * x2 * x2 * y2 * x3 * x3 * y3 * y3 * y3 + d * d * x1 * x1 * y1 * x2 * y2 * y2 * x3 * x3 * x3 * y3 * y3 + d * d * x1 * y1 * y1 * x2 * x2 * y2 * x3 * x3 * x3 * y3 * y3 - d * d * x1 * y1 * y1 * x2 * y2 * y2 * x3 * x3 * y3 * y3 * y3 + d * x1 * x1 * x1 * x2 * x2 * y2 * x3 * y3 * y3 + d * x1 * x1 * x1 * x2 * y2 * y2 * x3 * x3 * y3 - d * x1 * x1 * x1 * x2 * x3 * x3 * y3 * y3 * y3 - d * x1 * x1 * x1 * y2 * x3 * x3 * x3 * y3 * y3 - d * x1 * x1 * y1 * x2 * x2 * y2 * x3 * x3 * y3 - d * x1 * x1 * y1 * x2 * y2 * y2 * x3 * y3 * y3 - d * x1 * x1 * y1 * x2 * x3 * x3 * x3 * y3 * y3 - d * x1 * x1 * y1 * y2 * x3 * x3 * y3 * y3 * y3 - d * x1 * y1 * y1 * x2 * x2 * y2 * x3 * y3 * y3 - d * x1 * y1 * y1 * x2 * y2 * y2 * x3 * x3 * y3 + d * x1 * y1 * y1 * x2 * x3 * x3 * y3 * y3 * y3 + d * x1 * y1 * y1 * y2 * x3 * x3 * x3 * y3 * y3 + d * y1 * y1 * y1 * x2 * x2 * y2 * x3 * x3 * y3 + d * y1 * y1 * y1 * x2 * y2 * y2 * x3 * y3 * y3 + d * y1 * y1 * y1 * x2 * x3 * x3 * x3 * y3 * y3 + d * y1 * y1 * y1 * y2 * x3 * x3 * y3 * y3 * y3 + d * x1 * x2 * x2 * y2 * x3 * y3 * y3 + d * x1 * x2 * y2 * y2 * x3 * x3 * y3 - d * x1 * x2 * x3 * x3 * y3 * y3 * y3 - d * x1 * y2 * x3 * x3 * x3 * y3 * y3 - d * y1 * x2 * x2 * y2 * x3 * x3 * y3 - d * y1 * x2 * y2 * y2 * x3 * y3 * y3 - d * y1 * x2 * x3 * x3 * x3 * y3 * y3 - d * y1 * y2 * x3 * x3 * y3 * y3 * y3 - x1 * x1 * x1 * x2 * x3 * x3 * y3 + x1 * x1 * x1 * x2 * y3 * y3 * y3 - x1 * x1 * x1 * y2 * x3 * x3 * x3 + x1 * x1 * x1 * y2 * x3 * y3 * y3 - x1 * x1 * y1 * x2 * x3 * x3 * x3 + x1 * x1 * y1 * x2 * x3 * y3 * y3 - x1 * x1 * y1 * y2 * x3 * x3 * y3 + x1 * x1 * y1 * y2 * y3 * y3 * y3 + x1 * y1 * y1 * x2 * x3 * x3 * y3 - x1 * y1 * y1 * x2 * y3 * y3 * y3 + x1 * y1 * y1 * y2 * x3 * x3 * x3 - x1 * y1 * y1 * y2 * x3 * y3 * y3 + y1 * y1 * y1 * x2 * x3 * x3 * x3 - y1 * y1 * y1 * x2 * x3 * y3 * y3 + y1 * y1 * y1 * y2 * x3 * x3 * y3 - y1 * y1 * y1 * y2 * y3 * y3 * y3 - x1 * x1 * x1 * x2 * y3 - x1 * x1 * x1 * y2 * x3 - x1 * x1 * y1 * x2 * x3 - x1 * x1 * y1 * y2 * y3 + x1 * y1 * y1 * x2 * y3 + x1 * y1 * y1 * y2 * x3 - x1 * x2 * x3 * x3 * y3 + x1 * x2 * y3 * y3 * y3 - x1 * y2 * x3 * x3 * x3 + x1 * y2 * x3 * y3 * y3 + y1 * y1 * y1 * x2 * x3 + y1 * y1 * y1 * y2 * y3 - y1 * x2 * x3 * x3 * x3 + y1 * x2 * x3 * y3 * y3 - y1 * y2 * x3 * x3 * y3 + y1 * y2 * y3 * y3 * y3 - x1 * x2 * y3 - x1 * y2 * x3 - y1 * x2 * x3 - y1 * y2 * y3) * (d * x2 * x2 * y2 * y2 + 1 + x2 * x2 - y2 * y2) + (d * x1 * x1 * y1 * x2 * x2 * y2 * y3 - d * x1 * x1 * y1 * x2 * y2 * y2 * x3 - d * x1 * y1 * y1 * x2 * x2 * y2 * x3 + d * x1 * y1 * y1 * x2 * y2 * y2 * y3 + x1 * x1 * x1 * x2 * x2 * x2 * y3 + x1 * x1 * x1 * x2 * x2 * y2 * x3 - x1 * x1 * x1 * x2 * y2 * y2 * y3 - x1 * x1 * x1 * y2 * y2 * y2 * x3 + x1 * x1 * y1 * x2 * x2 * x2 * x3 + x1 * x1 * y1 * x2 * x2 * y2 * y3 - x1 * x1 * y1 * x2 * y2 * y2 * x3 - x1 * x1 * y1 * y2 * y2 * y2 * y3 - x1 * y1 * y1 * x2 * x2 * x2 * y3 - x1 * y1 * y1 * x2 * x2 * y2 * x3 + x1 * y1 * y1 * x2 * y2 * y2 * y3 + x1 * y1 * y1 * y2 * y2 * y2 * x3 - y1 * y1 * y1 * x2 * x2 * x2 * x3 - y1 * y1 * y1 * x2 * x2 * y2 * y3 + y1 * y1 * y1 * x2 * y2 * y2 * x3 + y1 * y1 * y1 * y2 * y2 * y2 * y3 + x1 * x1 * x1 * x2 * y3 + x1 * x1 * x1 * y2 * x3 + x1 * x1 * y1 * x2 * x3 + x1 * x1 * y1 * y2 * y3 - x1 * y1 * y1 * x2 * y3 - x1 * y1 * y1 * y2 * x3 + x1 * x2 * x2 * x2 * y3 + x1 * x2 * x2 * y2 * x3 - x1 * x2 * y2 * y2 * y3 - x1 * y2 * y2 * y2 * x3 - y1 * y1 * y1 * x2 * x3 - y1 * y1 * y1 * y2 * y3 + y1 * x2 * x2 * x2 * x3 + y1 * x2 * x2 * y2 * y3 - y1 * x2 * y2 * y2 * x3 - y1 * y2 * y2 * y2 * y3 + x1 * x2 * y3 + x1 * y2 * x3 + y1 * x2 * x3 + y1 * y2 * y3) * (d * x3 * x3 * y3 * y3 + 1 + x3 * x3 - y3 * y3) := by grind
 rw [h1, h2, h3] at k
 grind
theorem la_x1 (n m a b p q x1 y1 x3 y3 r s c : F) : (n * m * (a * b)) * ((p * y3 + q * x3) * (1 + c * x1 * r * y1 * s)) = (p * n * m * y3 + q * m * n * x3) * (a * b + c * x1 * y1 * (r * a * (s * b))) := by grind
theorem la_x2 (n m a b p q x1 y1 x3 y3 r s c : F) : (n * m * (a * b)) * ((x1 * s + y1 * r) * (1 + c * p * x3 * q * y3)) = (x1 * (s * b * a) + y1 * (r * a * b)) * (n * m + c * (p * n) * (q * m) * x3 * y3) := by grind
theorem la_y1 (n m a b p q x1 y1 x3 y3 r s c : F) : (n * m * (a * b)) * ((q * y3 + p * x3) * (1 - c * x1 * r * y1 * s)) = (q * m * n * y3 + p * n * m * x3) * (a * b - c * x1 * y1 * (r * a * (s * b))) := by grind
theorem la_y2 (n m a b p q x1 y1 x3 y3 r s c : F) : (n * m * (a * b)) * ((y1 * s + x1 * r) * (1 - c * p * x3 * q * y3)) = (y1 * (s * b * a) + x1 * (r * a * b)) * (n * m - c * (p * n) * (q * m) * x3 * y3) := by grind
theorem la_end (X Y N M : F) (h : X * N * M = Y * M * N) : N * M * X = N * M * Y := by
 have e1 : N * M * X = X * N * M := by grind
 have e2 : N * M * Y = Y * M * N := by grind
 rw [e1, e2, h]
set_option maxHeartbeats 1000000 in
theorem sum_assoc_x {x1 y1 x2 y2 x3 y3 : F} (h1 : On x1 y1) (h2 : On x2 y2) (h3 : On x3 y3) :
   sx (sx x1 y1 x2 y2) (sy x1 y1 x2 y2) x3 y3 = sx x1 y1 (sx x2 y2 x3 y3) (sy x2 y2 x3 y3) := by
 have o12 := on_sum h1 h2
 have o23 := on_sum h2 h3
 have a12 := sx_mul h1 h2; have b12 := sy_mul h1 h2; have a23 := sx_mul h2 h3; have b23 := sy_mul h2 h3
 have hg := f_mul_ne (f_mul_ne (np_ne h1 h2) (nm_ne h1 h2)) (f_mul_ne (np_ne h2 h3) (nm_ne h2 h3))
 have A := sx_mul o12 h3; have A' := sx_mul h1 o23
 have N := np_ne o12 h3; have N' := np_ne h1 o23
 have ix := assoc_x cd x1 y1 x2 y2 x3 y3 h1 h2 h3
 generalize sx (sx x1 y1 x2 y2) (sy x1 y1 x2 y2) x3 y3 = X at A ⊢
 generalize sx x1 y1 (sx x2 y2 x3 y3) (sy x2 y2 x3 y3) = X' at A' ⊢
 generalize sx x1 y1 x2 y2 = p at a12 A N
 generalize sy x1 y1 x2 y2 = q at b12 A N
 generalize sx x2 y2 x3 y3 = r at a23 A' N'
 generalize sy x2 y2 x3 y3 = s at b23 A' N'
 unfold ck at a12 b12 a23 b23 A A' N N' hg
 rw [← a12, ← b12, ← a23, ← b23] at ix
 generalize 1 + cd * x1 * x2 * y1 * y2 = n at a12 hg ix
 generalize 1 - cd * x1 * x2 * y1 * y2 = m at b12 hg ix
 generalize 1 + cd * x2 * x3 * y2 * y3 = n' at a23 hg ix
 generalize 1 - cd * x2 * x3 * y2 * y3 = m' at b23 hg ix
 have e1 := f_cancel hg (((la_x1 n m n' m' p q x1 y1 x3 y3 r s cd).trans ix).trans (la_x2 n m n' m' p q x1 y1 x3 y3 r s cd).symm)
 rw [← A, ← A'] at e1
 exact f_cancel (f_mul_ne N N') (la_end _ _ _ _ e1)
set_option maxHeartbeats 1000000 in
theorem sum_assoc_y {x1 y1 x2 y2 x3 y3 : F} (h1 : On x1 y1) (h2 : On x2 y2) (h3 : On x3 y3) :
   sy (sx x1 y1 x2 y2) (sy x1 y1 x2 y2) x3 y3 = sy x1 y1 (sx x2 y2 x3 y3) (sy x2 y2 x3 y3) := by
 have o12 := on_sum h1 h2
 have o23 := on_sum h2 h3
 have a12 := sx_mul h1 h2; have b12 := sy_mul h1 h2; have a23 := sx_mul h2 h3; have b23 := sy_mul h2 h3
 have hg := f_mul_ne (f_mul_ne (np_ne h1 h2) (nm_ne h1 h2)) (f_mul_ne (np_ne h2 h3) (nm_ne h2 h3))
 have A := sy_mul o12 h3; have A' := sy_mul h1 o23
 have N := nm_ne o12 h3; have N' := nm_ne h1 o23
 have ix := assoc_y cd x1 y1 x2 y2 x3 y3 h1 h2 h3
 generalize sy (sx x1 y1 x2 y2) (sy x1 y1 x2 y2) x3 y3 = X at A ⊢
 generalize sy x1 y1 (sx x2 y2 x3 y3) (sy x2 y2 x3 y3) = X' at A' ⊢
 generalize sx x1 y1 x2 y2 = p at a12 A N
 generalize sy x1 y1 x2 y2 = q at b12 A N
 generalize sx x2 y2 x3 y3 = r at a23 A' N'
 generalize sy x2 y2 x3 y3 = s at b23 A' N'
 unfold ck at a12 b12 a23 b23 A A' N N' hg
 rw [← a12, ← b12, ← a23, ← b23] at ix
 generalize 1 + cd * x1 * x2 * y1 * y2 = n at a12 hg ix
 generalize 1 - cd * x1 * x2 * y1 * y2 = m at b12 hg ix
 generalize 1 + cd * x2 * x3 * y2 * y3 = n' at a23 hg ix
 generalize 1 - cd * x2 * x3 * y2 * y3 = m' at b23 hg ix
 have e1 := f_cancel hg (((la_y1 n m n' m' p q x1 y1 x3 y3 r s cd).trans ix).trans (la_y2 n m n' m' p q x1 y1 x3 y3 r s cd).symm)
 rw [← A, ← A'] at e1
 exact f_cancel (f_mul_ne N N') (la_end _ _ _ _ e1)
end Go.Proofs.YtafhncpaoolljaaGreat.Fe
