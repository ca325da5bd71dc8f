/- The curve, plainly: points, how many times one; the base and its order. -/
import Derived.Test.YtafhncpaoolljaaGreatM27
namespace Go.Proofs.YtafhncpaoolljaaGreat.Fe
set_option maxRecDepth 100000
set_option linter.unusedVariables false
open Go Go.RowKit Num
structure CP where
 x : F
 y : F
 on : On x y
theorem CP.ext' {p q : CP} (hx : p.x = q.x) (hy : p.y = q.y) : p = q := by
 cases p; cases q; simp only at hx hy; subst hx; subst hy; rfl
def CP.zero : CP := ⟨0, 1, on_zero⟩
def CP.add (p q : CP) : CP := ⟨sx p.x p.y q.x q.y, sy p.x p.y q.x q.y, on_sum p.on q.on⟩
theorem CP.add_comm (p q : CP) : p.add q = q.add p := CP.ext' (sum_comm p.x p.y q.x q.y).1 (sum_comm p.x p.y q.x q.y).2
theorem CP.add_assoc (p q r : CP) : (p.add q).add r = p.add (q.add r) := CP.ext' (sum_assoc_x p.on q.on r.on) (sum_assoc_y p.on q.on r.on)
theorem CP.add_zero (p : CP) : p.add zero = p := CP.ext' (sum_zero p.x p.y).1 (sum_zero p.x p.y).2
theorem CP.zero_add (p : CP) : zero.add p = p := by rw [CP.add_comm, CP.add_zero]
def CP.mul (p : CP) : Nat → CP
 | 0 => zero
 | n + 1 => (p.mul n).add p
theorem CP.mul_add (p : CP) (m : Nat) : ∀ n, p.mul (m + n) = (p.mul m).add (p.mul n)
 | 0 => by rw [Nat.add_zero, CP.mul, CP.add_zero]
 | n + 1 => by rw [← Nat.add_assoc, CP.mul, CP.mul_add p m n, CP.mul, CP.add_assoc]
theorem CP.mul_one (p : CP) : p.mul 1 = p := by rw [CP.mul, CP.mul, CP.zero_add]
theorem CP.mul_zero (p : CP) : p.mul 0 = zero := rfl
theorem CP.zero_mul : ∀ n, zero.mul n = zero
 | 0 => rfl
 | n + 1 => by rw [CP.mul, CP.zero_mul n, CP.add_zero]
theorem CP.mul_mul (p : CP) (m : Nat) : ∀ n, p.mul (m * n) = (p.mul m).mul n
 | 0 => rfl
 | n + 1 => by rw [Nat.mul_succ, CP.mul_add, CP.mul_mul p m n, CP.mul]
theorem CP.mul_bit (p : CP) (n m : Nat) : p.mul (n / 2 ^ m) = if n / 2 ^ m % 2 = 1 then ((p.mul (n / 2 ^ (m + 1))).add (p.mul (n / 2 ^ (m + 1)))).add p else (p.mul (n / 2 ^ (m + 1))).add (p.mul (n / 2 ^ (m + 1))) := by
 have e : n / 2 ^ m = n / 2 ^ (m + 1) + n / 2 ^ (m + 1) + n / 2 ^ m % 2 := by rw [Nat.pow_succ, ← Nat.div_div_eq_div_mul]; omega
 have hb : n / 2 ^ m % 2 < 2 := Nat.mod_lt _ (by omega)
 generalize n / 2 ^ (m + 1) = q at e ⊢
 generalize n / 2 ^ m % 2 = b at e hb ⊢
 rw [e, CP.mul_add, CP.mul_add]
 split
 · rename_i h; rw [h, CP.mul_one]
 · rw [show b = 0 by omega, CP.mul_zero, CP.add_zero]
structure Rep (X Y Z : F) (p : CP) : Prop where
 z : Z ≠ 0
 x : X = p.x * Z
 y : Y = p.y * Z
theorem rp_id1 (x1 y1 x2 y2 a b d : F) : a * b * (a * b) - d * (x1 * a * (x2 * b) * (y1 * a * (y2 * b))) = a * b * (a * b) * (1 - d * x1 * x2 * y1 * y2) := by grind
theorem rp_id2 (x1 y1 x2 y2 a b d : F) : a * b * (a * b) + d * (x1 * a * (x2 * b) * (y1 * a * (y2 * b))) = a * b * (a * b) * (1 + d * x1 * x2 * y1 * y2) := by grind
theorem rp_idx (s x1 y1 x2 y2 a b m n : F) (h : s * n = x1 * y2 + y1 * x2) : a * b * (x1 * a * (y2 * b) + x2 * b * (y1 * a)) * (a * b * (a * b) * m) = s * (a * b * (a * b) * m * (a * b * (a * b) * n)) := by
 have e1 : a * b * (x1 * a * (y2 * b) + x2 * b * (y1 * a)) * (a * b * (a * b) * m) = (x1 * y2 + y1 * x2) * (a * b * (a * b) * (a * b * (a * b) * m)) := by grind
 rw [e1, ← h]; grind
theorem rp_idy (s x1 y1 x2 y2 a b m n : F) (h : s * m = y1 * y2 + x1 * x2) : a * b * (y1 * a * (y2 * b) + x1 * a * (x2 * b)) * (a * b * (a * b) * n) = s * (a * b * (a * b) * m * (a * b * (a * b) * n)) := by
 have e1 : a * b * (y1 * a * (y2 * b) + x1 * a * (x2 * b)) * (a * b * (a * b) * n) = (y1 * y2 + x1 * x2) * (a * b * (a * b) * (a * b * (a * b) * n)) := by grind
 rw [e1, ← h]; grind
theorem Rep.plus {X1 Y1 Z1 X2 Y2 Z2 : F} {p q : CP} (h : Rep X1 Y1 Z1 p) (k : Rep X2 Y2 Z2 q) :
   Rep (Z1 * Z2 * (X1 * Y2 + X2 * Y1) * (Z1 * Z2 * (Z1 * Z2) - cd * (X1 * X2 * (Y1 * Y2)))) (Z1 * Z2 * (Y1 * Y2 + X1 * X2) * (Z1 * Z2 * (Z1 * Z2) + cd * (X1 * X2 * (Y1 * Y2))))
     ((Z1 * Z2 * (Z1 * Z2) - cd * (X1 * X2 * (Y1 * Y2))) * (Z1 * Z2 * (Z1 * Z2) + cd * (X1 * X2 * (Y1 * Y2)))) (p.add q) := by
 have hz := f_mul_ne h.z k.z
 have hn := np_ne p.on q.on
 have hm := nm_ne p.on q.on
 have ax := sx_mul p.on q.on
 have ay := sy_mul p.on q.on
 unfold ck at hn hm ax ay
 rw [h.x, h.y, k.x, k.y, rp_id1, rp_id2]
 refine ⟨f_mul_ne (f_mul_ne (f_mul_ne hz hz) hm) (f_mul_ne (f_mul_ne hz hz) hn), ?_, ?_⟩
 · exact rp_idx _ _ _ _ _ _ _ _ _ ax
 · exact rp_idy _ _ _ _ _ _ _ _ _ ay
structure T3 where
 X : Nat
 Y : Nat
 Z : Nat
def plusT (p d : Nat) (a b : T3) : T3 :=
 let z := a.Z * b.Z % p
 let zz := z * z % p
 let xx := a.X * b.X % p
 let yy := a.Y * b.Y % p
 let all := d * (xx * yy % p) % p
 let less := (zz + (p - all)) % p
 let more := (zz + all) % p
 ⟨z * ((a.X * b.Y + b.X * a.Y) % p) % p * less % p, z * ((yy + xx) % p) % p * more % p, less * more % p⟩
def manyT (p d : Nat) (b : T3) : Nat → Nat → T3
 | 0, _ => ⟨0, 1, 1⟩
 | f + 1, n => if n % 2 = 1 then plusT p d (plusT p d (manyT p d b f (n / 2)) (manyT p d b f (n / 2))) b else plusT p d (manyT p d b f (n / 2)) (manyT p d b f (n / 2))
def RepT (t : T3) (p : CP) : Prop := Rep (fv t.X) (fv t.Y) (fv t.Z) p
theorem RepT.plus {a b : T3} {p q : CP} (h : RepT a p) (k : RepT b q) : RepT (plusT fp dN a b) (p.add q) := by
 have r := Rep.plus h k
 have hsub : ∀ u v : Nat, fv (u + (fp - v % fp)) = fv u - fv v := fun u v => by
   rw [fv_sub (Nat.le_of_lt (Nat.mod_lt _ fp_pos)), fv_mod]
 unfold RepT plusT
 simp only [fv_mod, fv_mul, fv_add, hsub]
 exact r
theorem RepT.zero : RepT ⟨0, 1, 1⟩ CP.zero := ⟨one_ne, by show fv 0 = (0 : F) * fv 1; rw [fv_one, fv_zero]; grind, by show fv 1 = (1 : F) * fv 1; rw [fv_one]; grind⟩
theorem RepT.many {b : T3} {p : CP} (h : RepT b p) : ∀ f n, n < 2 ^ f → RepT (manyT fp dN b f n) (p.mul n)
 | 0, n, hn => by obtain rfl : n = 0 := by omega
                  exact RepT.zero
 | f + 1, n, hn => by
   have ih := RepT.many h f (n / 2) (by rw [Nat.pow_succ] at hn; omega)
   have hb := CP.mul_bit p n 0
   rw [Nat.pow_zero, Nat.div_one, Nat.pow_one] at hb
   rw [manyT, hb]
   split
   · exact (ih.plus ih).plus h
   · exact ih.plus ih
@[irreducible] def bX : Nat := 15112221349535400772501151409588531511454012693041857206046113283949847762202
@[irreducible] def bY : Nat := 46316835694926478169428394003475163141307993866256225615783033603165251855960
theorem bX_eq : bX = 15112221349535400772501151409588531511454012693041857206046113283949847762202 := by unfold bX; first | done | rfl
theorem bY_eq : bY = 46316835694926478169428394003475163141307993866256225615783033603165251855960 := by unfold bY; first | done | rfl
theorem on_base : On (fv bX) (fv bY) := by
 have h : fv (dN * bX * bX * bY * bY + 1 + bX * bX) = fv (bY * bY) := fv_eq (by rw [dN_eq, bX_eq, bY_eq, fp_eq])
 simp only [fv_add, fv_mul, fv_one] at h
 unfold On cd
 rw [h]; grind
def CP.base : CP := ⟨fv bX, fv bY, on_base⟩
@[irreducible] def oL : Nat := 7237005577332262213973186563042994240857116359379907606001950938285454250989
theorem oL_eq : oL = 7237005577332262213973186563042994240857116359379907606001950938285454250989 := by unfold oL; first | done | rfl
def zeroT (p : Nat) (t : T3) : Bool := t.X % p == 0 && t.Y % p == t.Z % p
theorem RepT.is_zero {t : T3} {q : CP} (h : RepT t q) (k : zeroT fp t = true) : q = CP.zero := by
 simp only [zeroT, Bool.and_eq_true, beq_iff_eq] at k
 refine CP.ext' ?_ ?_
 · have : fv t.X = 0 := Fin.ext k.1
   refine f_cancel h.z ?_
   have hx := h.x
   rw [this] at hx
   show fv t.Z * q.x = fv t.Z * 0
   grind
 · have hy := h.y
   rw [fv_eq k.2] at hy
   refine f_cancel h.z ?_
   show fv t.Z * q.y = fv t.Z * 1
   grind
theorem RepT.base : RepT ⟨bX, bY, 1⟩ CP.base := ⟨one_ne, by show fv bX = fv bX * fv 1; rw [fv_one]; grind, by show fv bY = fv bY * fv 1; rw [fv_one]; grind⟩
theorem order_ck : zeroT fp (manyT fp dN ⟨bX, bY, 1⟩ 253 oL) = true := by
 rw [fp_eq, dN_eq, bX_eq, bY_eq, oL_eq]; decide +kernel
theorem base_order : CP.base.mul oL = CP.zero := (RepT.base.many 253 oL (by rw [oL_eq]; decide)).is_zero order_ck
end Go.Proofs.YtafhncpaoolljaaGreat.Fe
