/- The package limbs: the product's plain laws. Nothing of the program. -/
import Derived.Test.YtpgichfagodkpaaFieldM
namespace Go.Proofs.Ytpgichfagodkpaa.Fe
set_option linter.unusedVariables false
open Go Go.RowKit

/-- The first k limbs' number. -/
def ps (f : Nat → Nat) : Nat → Nat
  | 0 => 0
  | k + 1 => ps f k + lw k * f k
theorem ps_lv (f : Nat → Nat) : ps f 5 = lv f := by
  rw [lv_eq]; simp [ps, lw]
theorem ps_upd (f : Nat → Nat) (i x : Nat) : ∀ k, k ≤ i → ps (upd f i x) k = ps f k
  | 0, _ => rfl
  | k + 1, h => by rw [ps, ps, ps_upd f i x k (by omega), upd_other _ _ _ _ (by omega)]
theorem lw_add (i k : Nat) : lw i * lw k = lw (i + k) := by unfold lw; rw [← Nat.pow_add]; congr 1; omega
theorem lw5 : lw 5 = fp + 19 := by rw [← fp_big]; rfl
/-- Where a product of limbs goes, and as what. -/
def at5 (i k : Nat) : Nat := if 5 ≤ i + k then i + k - 5 else i + k
def y5 (b : Nat → Nat) (i k : Nat) : Nat := if 5 ≤ i + k then 19 * b k else b k
/-- More than a product of limbs. -/
@[irreducible] def kk : Nat := 162259276829213363391578010288128
theorem kk_eq : kk = 162259276829213363391578010288128 := by unfold kk; first | done | rfl
/-- Products so far. -/
structure Acc (a b : Nat → Nat) (i k : Nat) (A : Nat → Nat) : Prop where
  val : lv A % fp = (ps a i * lv b + lw i * a i * ps b k) % fp
  bd : ∀ j, j < 5 → A j ≤ (5 * i + k) * kk
theorem Acc.start (a b : Nat → Nat) : Acc a b 0 0 (fun _ => 0) := ⟨by rw [lv_eq]; simp [ps], fun j _ => by simp⟩
theorem Acc.term {a b : Nat → Nat} (ha : Lim 2 a) (hb : Lim 2 b) (i k : Nat) (hi : i < 5) (hk : k < 5) : a i * y5 b i k ≤ kk ∧ y5 b i k < 18446744073709551616 ∧ a i < 18446744073709551616 := by
  have h1 : a i < 2251799813685267 := by
    rcases Nat.eq_zero_or_pos i with h0 | h0
    · subst h0; exact (ha.m2 rfl).1
    · have := (ha.m2 rfl).2 i h0 hi; omega
  have h2 : b k < 2251799813685267 := by
    rcases Nat.eq_zero_or_pos k with h0 | h0
    · subst h0; exact (hb.m2 rfl).1
    · have := (hb.m2 rfl).2 k h0 hk; omega
  have h3 : y5 b i k ≤ 19 * 2251799813685267 := by unfold y5; split <;> omega
  refine ⟨Nat.le_trans (Nat.mul_le_mul (Nat.le_of_lt h1) h3) (by rw [kk_eq]; decide), by omega, by omega⟩
theorem Acc.step {a b A : Nat → Nat} {i k : Nat} (h : Acc a b i k A) (ha : Lim 2 a) (hb : Lim 2 b) (hi : i < 5) (hk : k < 5) : Acc a b i (k + 1) (upd A (at5 i k) (A (at5 i k) + a i * y5 b i k)) := by
  have hat : at5 i k < 5 := by unfold at5; split <;> omega
  have ht := (Acc.term ha hb i k hi hk).1
  refine ⟨?_, fun j hj => ?_⟩
  · have h1 := lv_upd A (at5 i k) (A (at5 i k) + a i * y5 b i k) hat
    rw [Nat.mul_add] at h1
    have e1 : lv (upd A (at5 i k) (A (at5 i k) + a i * y5 b i k)) = lv A + lw (at5 i k) * (a i * y5 b i k) := by omega
    rw [e1, ps, Nat.mul_add, ← Nat.add_assoc, Nat.add_mod, h.val, ← Nat.add_mod]
    have e2 : lw i * a i * (lw k * b k) = lw (i + k) * (a i * b k) := by
      rw [← lw_add]; simp only [Nat.mul_assoc]; congr 1; rw [← Nat.mul_assoc (a i), Nat.mul_comm (a i) (lw k), Nat.mul_assoc]
    rw [e2]
    unfold at5 y5
    by_cases h5 : 5 ≤ i + k
    · rw [if_pos h5, if_pos h5]
      have e3 : lw (i + k) = lw (i + k - 5) * (fp + 19) := by rw [← lw5, lw_add]; congr 1; omega
      rw [e3]
      have e4 : lw (i + k - 5) * (fp + 19) * (a i * b k) = lw (i + k - 5) * (a i * (19 * b k)) + fp * (lw (i + k - 5) * (a i * b k)) := by
        rw [Nat.mul_add, Nat.add_mul, Nat.add_comm, Nat.mul_comm (lw (i + k - 5)) fp, Nat.mul_assoc fp, Nat.mul_assoc (lw (i + k - 5)) 19]
        congr 2
        rw [← Nat.mul_assoc, Nat.mul_comm 19, Nat.mul_assoc]
      rw [e4, ← Nat.add_assoc, Nat.add_mul_mod_self_left]
    · rw [if_neg h5, if_neg h5]
  · by_cases e : j = at5 i k
    · subst e; rw [upd_same]; have := h.bd _ hat
      rw [show 5 * i + (k + 1) = (5 * i + k) + 1 from by omega, Nat.add_mul, Nat.one_mul]; omega
    · rw [upd_other _ _ _ _ e]; have := h.bd j hj
      rw [show 5 * i + (k + 1) = (5 * i + k) + 1 from by omega, Nat.add_mul, Nat.one_mul]; omega
theorem Acc.next {a b A : Nat → Nat} {i : Nat} (h : Acc a b i 5 A) : Acc a b (i + 1) 0 A := by
  refine ⟨?_, fun j hj => by have := h.bd j hj; rw [show 5 * (i + 1) + 0 = 5 * i + 5 from by omega]; exact this⟩
  rw [h.val, ps_lv]
  simp only [ps, Nat.add_mul, Nat.mul_zero, Nat.add_zero]
theorem Acc.all {a b A : Nat → Nat} (h : Acc a b 5 0 A) : lv A % fp = lv a * lv b % fp := by
  rw [h.val, ps_lv]; simp [ps]
theorem Acc.lt {a b A : Nat → Nat} {i k : Nat} (h : Acc a b i k A) (hi : 5 * i + k ≤ 25) (j : Nat) (hj : j < 5) : A j ≤ 4056481920730334084789450257203200 :=
  Nat.le_trans (h.bd j hj) (Nat.le_trans (Nat.mul_le_mul hi (Nat.le_refl _)) (by rw [kk_eq]; decide))
/-- The accumulators carried: i of them. -/
structure Chn (A : Nat → Nat) (i : Nat) (f : Nat → Nat) (c : Nat) : Prop where
  low : ∀ j, j < i → f j < 2251799813685248
  zero : ∀ j, i ≤ j → f j = 0
  val : ps f i + lw i * c = ps A i
  c : c ≤ 2305843009213693952
theorem Chn.start (A : Nat → Nat) : Chn A 0 (fun _ => 0) 0 := ⟨fun j hj => by omega, fun _ _ => rfl, by simp [ps], by omega⟩
theorem Chn.step {A f : Nat → Nat} {i c : Nat} (h : Chn A i f c) (hA : A i ≤ 4056481920730334084789450257203200) : Chn A (i + 1) (upd f i ((A i + c) % 2251799813685248)) ((A i + c) / 2251799813685248) := by
  have hc := h.c
  refine ⟨fun j hj => ?_, fun j hj => ?_, ?_, by omega⟩
  · by_cases e : j = i
    · subst e; rw [upd_same]; omega
    · rw [upd_other _ _ _ _ e]; exact h.low j (by omega)
  · rw [upd_other _ _ _ _ (by omega)]; exact h.zero j (by omega)
  · rw [ps, ps, ps_upd _ _ _ _ (Nat.le_refl _), upd_same, lw_succ, Nat.mul_assoc]
    have h3 := Nat.div_add_mod (A i + c) 2251799813685248
    have h4 := h.val
    generalize (A i + c) / 2251799813685248 = d at h3 ⊢
    generalize (A i + c) % 2251799813685248 = r at h3 ⊢
    have h5 : lw i * (2251799813685248 * d) + lw i * r = lw i * A i + lw i * c := by rw [← Nat.mul_add, ← Nat.mul_add, h3]
    omega
/-- The last carry comes in at the bottom. -/
theorem Chn.done {A f : Nat → Nat} {c : Nat} (h : Chn A 5 f c) :
    Lim 0 (upd (upd f 0 ((f 0 + 19 * c) % 2251799813685248)) 1 (f 1 + (f 0 + 19 * c) / 2251799813685248)) ∧
      lv (upd (upd f 0 ((f 0 + 19 * c) % 2251799813685248)) 1 (f 1 + (f 0 + 19 * c) / 2251799813685248)) % fp = lv A % fp := by
  have l0 := h.low 0 (by omega); have l1 := h.low 1 (by omega)
  have hc := h.c
  refine ⟨⟨fun _ j hj => ?_, fun h => by omega, fun h => by omega, fun h => by omega⟩, ?_⟩
  · by_cases e1 : j = 1
    · subst e1; rw [upd_same]; omega
    · rw [upd_other _ _ _ _ e1]
      by_cases e0 : j = 0
      · subst e0; rw [upd_same]; omega
      · rw [upd_other _ _ _ _ e0]; have := h.low j hj; omega
  · have h1 := lv_upd f 0 ((f 0 + 19 * c) % 2251799813685248) (by omega)
    have h2 := lv_upd (upd f 0 ((f 0 + 19 * c) % 2251799813685248)) 1 (f 1 + (f 0 + 19 * c) / 2251799813685248) (by omega)
    rw [upd_other f _ _ 1 (by omega)] at h2
    have h3 := Nat.div_add_mod (f 0 + 19 * c) 2251799813685248
    have h4 := h.val
    rw [ps_lv, ps_lv, lw5, Nat.add_mul] at h4
    rw [show lw 0 = 1 from rfl] at h1
    rw [show lw 1 = 2251799813685248 from rfl] at h2
    generalize (f 0 + 19 * c) / 2251799813685248 = d at h2 h3 ⊢
    generalize (f 0 + 19 * c) % 2251799813685248 = r at h1 h2 h3 ⊢
    have e : lv A = lv (upd (upd f 0 r) 1 (f 1 + d)) + fp * c := by omega
    rw [e, Nat.add_mul_mod_self_left]
end Go.Proofs.Ytpgichfagodkpaa.Fe
