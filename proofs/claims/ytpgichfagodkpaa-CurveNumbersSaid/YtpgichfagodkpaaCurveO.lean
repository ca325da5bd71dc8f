/- The curve, plainly: how many points there are at most; each of them eight times, and that as many times as the order, is the zero. -/
import Derived.Test.YtpgichfagodkpaaCurveE
import Derived.Test.YtpgichfagodkpaaNumL
namespace Go.Proofs.Ytpgichfagodkpaa.Fe
set_option linter.unusedVariables false
open Go Go.RowKit

/-- Pigeons. -/
theorem pigeon : ∀ (n m : Nat) (f : Nat → Nat), (∀ i, i < m → f i < n) → (∀ i j, i < m → j < m → f i = f j → i = j) → m ≤ n
  | 0, m, f, h, _ => by
    by_cases hm : m = 0
    · omega
    · have := h 0 (by omega); omega
  | n + 1, 0, _, _, _ => by omega
  | n + 1, m + 1, f, h, hi => by
    have hne : ∀ i, i < m → f i ≠ f m := fun i hi' e => by have := hi i m (by omega) (by omega) e; omega
    have hm := h m (by omega)
    have := pigeon n m (fun i => if f i > f m then f i - 1 else f i) (fun i hi' => by
      have h1 := h i (by omega); have h3 := hne i hi'
      show (if f i > f m then f i - 1 else f i) < n
      split <;> omega) (fun i j hi' hj' e => by
      have h3 := hne i hi'; have h4 := hne j hj'
      refine hi i j (by omega) (by omega) ?_
      have e : (if f i > f m then f i - 1 else f i) = (if f j > f m then f j - 1 else f j) := e
      split at e <;> split at e <;> omega)
    omega
theorem CP.mul_cancel {q : CP} {a b : Nat} (h : q.mul a = q.mul b) (hab : a ≤ b) : q.mul (b - a) = CP.zero := by
  have e : q.mul b = (q.mul a).add (q.mul (b - a)) := by rw [← CP.mul_add]; congr 1; omega
  rw [e] at h
  refine (CP.cancel (p := q.mul a) (q := CP.zero) (r := q.mul (b - a)) ?_).symm
  rw [CP.add_zero]; exact h
theorem CP.mul_dvd {q : CP} {a b : Nat} (h : q.mul a = CP.zero) (hd : a ∣ b) : q.mul b = CP.zero := by
  obtain ⟨c, rfl⟩ := hd
  rw [CP.mul_mul, h, CP.zero_mul]
theorem CP.mul_gcd {q : CP} (a b : Nat) (ha : q.mul a = CP.zero) (hb : q.mul b = CP.zero) : q.mul (Nat.gcd a b) = CP.zero := by
  induction a, b using Nat.gcd.induction with
  | H0 n => rw [Nat.gcd_zero_left]; exact hb
  | H1 m n hm ih =>
    rw [Nat.gcd_rec]
    refine ih ?_ ha
    have h1 : q.mul n = (q.mul (m * (n / m))).add (q.mul (n % m)) := by rw [← CP.mul_add, Nat.div_add_mod]
    rw [hb, CP.mul_dvd ha ⟨n / m, rfl⟩, CP.zero_add] at h1
    exact h1.symm
theorem CP.mul_comm' (q : CP) (a b : Nat) : (q.mul a).mul b = (q.mul b).mul a := by rw [← CP.mul_mul, ← CP.mul_mul, Nat.mul_comm]
/-- The order is prime. -/
theorem oL_prime : Num.Pr oL := by rw [oL_eq]; exact Num.pr_7237005577332262213973186563042994240857116359379907606001950938285454250989
theorem oL_coprime {c : Nat} (h0 : 0 < c) (h : c < oL) : Nat.gcd c oL = 1 := by
  rcases oL_prime.2 _ (Nat.gcd_dvd_right c oL) with h1 | h1
  · exact h1
  · have := Nat.le_of_dvd h0 (h1 ▸ Nat.gcd_dvd_left c oL); omega
theorem base_ne : CP.base ≠ CP.zero := fun h => by
  have h1 : bX % fp = 0 := congrArg (fun p : CP => p.x.val) h
  rw [bX_eq, fp_eq] at h1
  revert h1; decide
/-- Multiples of the base below the order are apart. -/
theorem base_apart {a b : Nat} (ha : a < oL) (hb : b < oL) (h : CP.base.mul a = CP.base.mul b) : a = b := by
  have key : ∀ {a b : Nat}, a < b → b < oL → CP.base.mul a = CP.base.mul b → False := fun {a b} hab hb h => by
    have h1 := CP.mul_gcd _ _ (CP.mul_cancel h (Nat.le_of_lt hab)) base_order
    rw [oL_coprime (by omega) (by omega), CP.mul_one] at h1
    exact base_ne h1
  rcases Nat.lt_trichotomy a b with h1 | h1 | h1
  · exact (key h1 hb h).elim
  · exact h1
  · exact (key h1 ha h.symm).elim
theorem base_mod (n : Nat) : CP.base.mul (n % oL) = CP.base.mul n := by
  have h1 : CP.base.mul n = (CP.base.mul (oL * (n / oL))).add (CP.base.mul (n % oL)) := by rw [← CP.mul_add, Nat.div_add_mod]
  rw [h1, CP.mul_mul, base_order, CP.zero_mul, CP.zero_add]
/-- A point of eight. -/
@[irreducible] def tX : Nat := 14399317868200118260347934320527232580618823971194345261214217575416788799818
@[irreducible] def tY : Nat := 55188659117513257062467267217118295137698188065244968500265048394206261417927
theorem tX_eq : tX = 14399317868200118260347934320527232580618823971194345261214217575416788799818 := by unfold tX; first | done | rfl
theorem tY_eq : tY = 55188659117513257062467267217118295137698188065244968500265048394206261417927 := by unfold tY; first | done | rfl
theorem on_t : On (fv tX) (fv tY) := by
  have h : fv (dN * tX * tX * tY * tY + 1 + tX * tX) = fv (tY * tY) := fv_eq (by rw [dN_eq, tX_eq, tY_eq, fp_eq])
  simp only [fv_add, fv_mul, fv_one] at h
  unfold On cd
  rw [h]; grind
def CP.t8 : CP := ⟨fv tX, fv tY, on_t⟩
theorem RepT.t8 : RepT ⟨tX, tY, 1⟩ CP.t8 := ⟨one_ne, by show fv tX = fv tX * fv 1; rw [fv_one]; grind, by show fv tY = fv tY * fv 1; rw [fv_one]; grind⟩
theorem RepT.not_zero {t : T3} {q : CP} (h : RepT t q) (k : zeroT fp t = false) : q ≠ CP.zero := fun e => by
  subst e
  have hx : fv t.X = 0 := by have := h.x; rw [this]; show (0 : F) * _ = 0; grind
  have hy : fv t.Y = fv t.Z := by have := h.y; rw [this]; show (1 : F) * _ = _; grind
  have : zeroT fp t = true := by
    simp only [zeroT, Bool.and_eq_true, beq_iff_eq]
    exact ⟨congrArg Fin.val hx, fv_inj hy⟩
  rw [this] at k; cases k
theorem t8_ck : zeroT fp (manyT fp dN ⟨tX, tY, 1⟩ 4 8) = true := by
  rw [fp_eq, dN_eq, tX_eq, tY_eq]; decide +kernel
theorem t4_ck : zeroT fp (manyT fp dN ⟨tX, tY, 1⟩ 4 4) = false := by
  rw [fp_eq, dN_eq, tX_eq, tY_eq]; decide +kernel
theorem t8_zero : CP.t8.mul 8 = CP.zero := (RepT.t8.many 4 8 (by omega)).is_zero t8_ck
theorem t4_ne : CP.t8.mul 4 ≠ CP.zero := (RepT.t8.many 4 4 (by omega)).not_zero t4_ck
/-- A point of eight, as many times as the order: of eight too. -/
theorem tl_apart {a b : Nat} (ha : a < 8) (hb : b < 8) (h : (CP.t8.mul oL).mul a = (CP.t8.mul oL).mul b) : a = b := by
  have h8 : (CP.t8.mul oL).mul 8 = CP.zero := by rw [CP.mul_comm', t8_zero, CP.zero_mul]
  have h4 : (CP.t8.mul oL).mul 4 ≠ CP.zero := fun e => t4_ne (by
    rw [CP.mul_comm'] at e
    have e2 : (CP.t8.mul 4).mul oL = CP.t8.mul 4 := by
      rw [← CP.mul_mul, show 4 * oL = 8 * (4 * oL / 8) + 4 by rw [oL_eq], CP.mul_add, CP.mul_mul, t8_zero, CP.zero_mul, CP.zero_add]
    rw [e2] at e; exact e)
  have key : ∀ {a b : Nat}, a < b → b < 8 → (CP.t8.mul oL).mul a = (CP.t8.mul oL).mul b → False := fun {a b} hab hb h => by
    have h1 := CP.mul_gcd _ _ (CP.mul_cancel h (Nat.le_of_lt hab)) h8
    refine h4 (CP.mul_dvd h1 ?_)
    have : ∀ d : Fin 8, 0 < d.val → Nat.gcd d.val 8 ∣ 4 := by decide +kernel
    exact this ⟨b - a, by omega⟩ (by show 0 < b - a; omega)
  rcases Nat.lt_trichotomy a b with h1 | h1 | h1
  · exact (key h1 hb h).elim
  · exact h1
  · exact (key h1 ha h.symm).elim
/-- A point's number. -/
def codeP (p : CP) : Nat := 2 * p.y.val + p.x.val % 2
theorem codeP_lt (p : CP) : codeP p < 2 * fp := by have := p.y.isLt; unfold codeP; omega
theorem codeP_inj {p q : CP} (h : codeP p = codeP q) : p = q := by
  unfold codeP at h
  have h1 : p.y.val = q.y.val := by omega
  have h2 : p.x.val % 2 = q.x.val % 2 := by omega
  refine encP_inj ?_
  unfold encP; rw [h1, h2]
def ptI (P : CP) (i : Nat) : CP := ((CP.t8.mul (i % 8)).add (CP.base.mul (i / 8 % oL))).add (P.mul (i / 8 / oL))
theorem ptI_K (P : CP) (i : Nat) : (ptI P i).mul (8 * oL) = (P.mul (8 * oL)).mul (i / 8 / oL) := by
  unfold ptI
  rw [CP.add_mul, CP.add_mul, CP.mul_comm' CP.t8, CP.mul_comm' CP.base, CP.mul_comm' P, CP.mul_mul CP.t8 8 oL, t8_zero, CP.zero_mul, CP.zero_mul, CP.mul_dvd base_order ⟨8, Nat.mul_comm _ _⟩, CP.zero_mul, CP.add_zero, CP.zero_add]
theorem oL_pos : 0 < oL := by rw [oL_eq]; decide
theorem oL_big : 2 * fp < 16 * oL := by rw [oL_eq, fp_eq]; decide
/-- EACH POINT EIGHT TIMES, AND THAT AS MANY TIMES AS THE ORDER, IS THE ZERO. -/
theorem eight (P : CP) : P.mul (8 * oL) = CP.zero := Classical.byContradiction fun hP => by
  have hlt : ∀ i, i < 16 * oL → i / 8 / oL < 2 := fun i hi => by
    rw [Nat.div_div_eq_div_mul, Nat.div_lt_iff_lt_mul (by have := oL_pos; omega)]; omega
  have := pigeon (2 * fp) (16 * oL) (fun i => codeP (ptI P i)) (fun i _ => codeP_lt _) (fun i j hi hj e => by
    have e := codeP_inj e
    have e1 := hlt i hi; have e2 := hlt j hj
    have hK : (P.mul (8 * oL)).mul (i / 8 / oL) = (P.mul (8 * oL)).mul (j / 8 / oL) := by rw [← ptI_K, ← ptI_K, e]
    have he : i / 8 / oL = j / 8 / oL := by
      generalize i / 8 / oL = a at e1 hK ⊢
      generalize j / 8 / oL = b at e2 hK ⊢
      match a, b, e1, e2, hK with
      | 0, 0, _, _, _ => rfl
      | 1, 1, _, _, _ => rfl
      | 0, 1, _, _, hK => rw [CP.mul_one] at hK; exact (hP hK.symm).elim
      | 1, 0, _, _, hK => rw [CP.mul_one] at hK; exact (hP hK).elim
    unfold ptI at e
    rw [he, CP.add_comm, CP.add_comm _ (P.mul _)] at e
    have e3 := CP.cancel e
    have e4 : (CP.t8.mul oL).mul (i % 8) = (CP.t8.mul oL).mul (j % 8) := by
      have h := congrArg (fun q : CP => q.mul oL) e3
      simp only [CP.add_mul] at h
      rw [CP.mul_comm' CP.base (i / 8 % oL) oL, CP.mul_comm' CP.base (j / 8 % oL) oL, base_order, CP.zero_mul, CP.zero_mul, CP.add_zero, CP.add_zero, CP.mul_comm' CP.t8 (i % 8) oL, CP.mul_comm' CP.t8 (j % 8) oL] at h
      exact h
    have h8 := tl_apart (Nat.mod_lt _ (by omega)) (Nat.mod_lt _ (by omega)) e4
    rw [h8] at e3
    have hL := base_apart (Nat.mod_lt _ oL_pos) (Nat.mod_lt _ oL_pos) (CP.cancel e3)
    have d1 := Nat.div_add_mod i 8; have d2 := Nat.div_add_mod j 8
    have d3 := Nat.div_add_mod (i / 8) oL; have d4 := Nat.div_add_mod (j / 8) oL
    rw [he, hL] at d3
    omega)
  have := oL_big
  omega
end Go.Proofs.Ytpgichfagodkpaa.Fe
