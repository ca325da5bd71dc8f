/- Numbers in five limbs of 51 bits, modulo 2^255 - 19: plain laws. Nothing of the program. -/
import Derived.Test.YtpgichfagodkpaaWords
namespace Go.Proofs.Ytpgichfagodkpaa.Fe
set_option linter.unusedVariables false
open Go Go.RowKit

@[irreducible] def fp : Nat := 57896044618658097711785492504343953926634992332820282019728792003956564819949
theorem fp_eq : fp = 57896044618658097711785492504343953926634992332820282019728792003956564819949 := by unfold fp; first | done | rfl
theorem fp_pos : 0 < fp := by simp [fp_eq]
theorem fp_big : 2 ^ 255 = fp + 19 := by simp [fp_eq]
/-- The number of five limbs. -/
@[irreducible] def lv (f : Nat → Nat) : Nat := f 0 + 2251799813685248 * f 1 + 5070602400912917605986812821504 * f 2 + 11417981541647679048466287755595961091061972992 * f 3 + 25711008708143844408671393477458601640355247900524685364822016 * f 4
theorem lv_eq (f : Nat → Nat) : lv f = f 0 + 2251799813685248 * f 1 + 5070602400912917605986812821504 * f 2 + 11417981541647679048466287755595961091061972992 * f 3 + 25711008708143844408671393477458601640355247900524685364822016 * f 4 := by unfold lv; rfl
def upd (f : Nat → Nat) (i x : Nat) : Nat → Nat := fun j => if j = i then x else f j
theorem upd_same (f : Nat → Nat) (i x : Nat) : upd f i x i = x := by simp [upd]
theorem upd_other (f : Nat → Nat) (i x j : Nat) (h : j ≠ i) : upd f i x j = f j := by simp [upd, h]
theorem upd_upd (f : Nat → Nat) (i x y : Nat) : upd (upd f i x) i y = upd f i y := by
  funext j; unfold upd; split <;> rfl
/-- A limb's weight. -/
def lw (i : Nat) : Nat := 2 ^ (51 * i)
theorem lv_upd (f : Nat → Nat) (i x : Nat) (hi : i < 5) : lv (upd f i x) + lw i * f i = lv f + lw i * x := by
  rw [lv_eq, lv_eq]
  match i, hi with
  | 0, _ => simp [upd, lw]; omega
  | 1, _ => simp [upd, lw]; omega
  | 2, _ => simp [upd, lw]; omega
  | 3, _ => simp [upd, lw]; omega
  | 4, _ => simp [upd, lw]; omega
def ecell (f : Nat → Nat) : Array Value := #[.int .u64 (f 0), .int .u64 (f 1), .int .u64 (f 2), .int .u64 (f 3), .int .u64 (f 4)]
theorem ecell_get (f : Nat → Nat) (i : Nat) (hi : i < 5) : (ecell f)[i]? = some (.int .u64 (f i)) := by
  match i, hi with
  | 0, _ => rfl
  | 1, _ => rfl
  | 2, _ => rfl
  | 3, _ => rfl
  | 4, _ => rfl
theorem ecell_set (f : Nat → Nat) (i : Nat) (hi : i < 5) (x : Nat) (y : Int) (hy : y = x) : (ecell f).setIfInBounds i (.int .u64 y) = ecell (upd f i x) := by
  subst hy
  match i, hi with
  | 0, _ => rfl
  | 1, _ => rfl
  | 2, _ => rfl
  | 3, _ => rfl
  | 4, _ => rfl
/-- What is asked of limbs ahead of a pass of carries: 0: any of 63 bits; 1, 2, 3: behind passes. -/
structure Lim (m : Nat) (f : Nat → Nat) : Prop where
  m0 : m = 0 → ∀ j, j < 5 → f j < 9223372036854775808
  m1 : m = 1 → f 0 < 4503599627370496 ∧ ∀ j, 1 ≤ j → j < 5 → f j < 2251799813685248
  m2 : m = 2 → f 0 < 2251799813685267 ∧ ∀ j, 1 ≤ j → j < 5 → f j < 2251799813685248
  m3 : 3 ≤ m → ∀ j, j < 5 → f j < 2251799813685248
/-- Within a pass: i limbs are done. -/
structure Car (m : Nat) (g : Nat → Nat) (i : Nat) (f : Nat → Nat) (o : Nat) : Prop where
  lim : Lim m g
  low : ∀ j, j < i → f j < 2251799813685248
  up : ∀ j, i ≤ j → f j = g j
  val : lv f + lw i * o = lv g
  o0 : m = 0 → o ≤ 8192
  o1 : m = 1 → o ≤ 1 ∧ (i = 0 → o = 0)
  o2 : m = 2 → o ≤ 1 ∧ (o = 1 → f 0 < 19) ∧ (i = 0 → o = 0)
  o3 : 3 ≤ m → o = 0
theorem Car.start {m : Nat} {g : Nat → Nat} (h : Lim m g) : Car m g 0 g 0 :=
  ⟨h, fun j hj => by omega, fun _ _ => rfl, by omega, fun _ => by omega, fun _ => ⟨by omega, fun _ => rfl⟩, fun _ => ⟨by omega, fun h => by omega, fun _ => rfl⟩, fun _ => rfl⟩
theorem Car.bound {m i o : Nat} {g f : Nat → Nat} (h : Car m g i f o) (hi : i < 5) : f i + o < 18446744073709551616 := by
  have hu := h.up i (Nat.le_refl _)
  rw [hu]
  rcases Nat.lt_or_ge m 3 with hm | hm
  · rcases m with _ | _ | _ | m
    · have := h.lim.m0 rfl i hi; have := h.o0 rfl; omega
    · have := h.lim.m1 rfl; have := (h.o1 rfl).1
      rcases Nat.eq_zero_or_pos i with hi0 | hi0
      · subst hi0; omega
      · have := this; have := (h.lim.m1 rfl).2 i hi0 hi; omega
    · have := h.lim.m2 rfl; have := (h.o2 rfl).1
      rcases Nat.eq_zero_or_pos i with hi0 | hi0
      · subst hi0; omega
      · have := (h.lim.m2 rfl).2 i hi0 hi; omega
    · omega
  · have := h.lim.m3 hm i hi; have := h.o3 hm; omega
theorem lw_succ (i : Nat) : lw (i + 1) = lw i * 2251799813685248 := by unfold lw; rw [Nat.mul_add, Nat.pow_add]
theorem Car.step {m i o : Nat} {g f : Nat → Nat} (h : Car m g i f o) (hi : i < 5) : Car m g (i + 1) (upd f i ((f i + o) % 2251799813685248)) ((f i + o) / 2251799813685248) := by
  have hu := h.up i (Nat.le_refl _)
  refine ⟨h.lim, ?_, ?_, ?_, ?_, ?_, ?_, ?_⟩
  · intro j hj
    by_cases e : j = i
    · subst e; rw [upd_same]; omega
    · rw [upd_other _ _ _ _ e]; exact h.low j (by omega)
  · intro j hj
    rw [upd_other _ _ _ _ (by omega)]; exact h.up j (by omega)
  · have h1 := lv_upd f i ((f i + o) % 2251799813685248) hi
    have h2 := h.val
    rw [lw_succ, Nat.mul_assoc]
    have h3 := Nat.div_add_mod (f i + o) 2251799813685248
    generalize (f i + o) / 2251799813685248 = d at h3 ⊢
    generalize (f i + o) % 2251799813685248 = r at h1 h3 ⊢
    have h4 : lw i * (2251799813685248 * d) + lw i * r = lw i * f i + lw i * o := by rw [← Nat.mul_add, ← Nat.mul_add, h3]
    omega
  · intro hm; subst hm; have := h.lim.m0 rfl i hi; have := h.o0 rfl; omega
  · intro hm; subst hm
    have ho := h.o1 rfl
    refine ⟨?_, fun e => by omega⟩
    rcases Nat.eq_zero_or_pos i with hi0 | hi0
    · subst hi0; have := (h.lim.m1 rfl).1; have := ho.2 rfl; omega
    · have := (h.lim.m1 rfl).2 i hi0 hi; have := ho.1; omega
  · intro hm; subst hm
    have ho := h.o2 rfl
    rcases Nat.eq_zero_or_pos i with hi0 | hi0
    · subst hi0
      have := (h.lim.m2 rfl).1
      have h0 := ho.2.2 rfl
      refine ⟨by omega, fun e => ?_, fun e => by omega⟩
      rw [upd_same]; omega
    · have := (h.lim.m2 rfl).2 i hi0 hi
      refine ⟨by omega, fun e => ?_, fun e => by omega⟩
      rw [upd_other _ _ _ _ (by omega)]
      exact ho.2.1 (by omega)
  · intro hm; have := h.lim.m3 hm i hi; have := h.o3 hm; omega
theorem Car.done {m o : Nat} {g f : Nat → Nat} (h : Car m g 5 f o) : Lim (m + 1) (upd f 0 (f 0 + 19 * o)) ∧ lv (upd f 0 (f 0 + 19 * o)) % fp = lv g % fp ∧ f 0 + 19 * o < 18446744073709551616 := by
  have l0 := h.low 0 (by omega)
  have hl : ∀ j, 1 ≤ j → j < 5 → upd f 0 (f 0 + 19 * o) j < 2251799813685248 := fun j h1 h2 => by rw [upd_other _ _ _ _ (by omega)]; exact h.low j h2
  have e0 : upd f 0 (f 0 + 19 * o) 0 = f 0 + 19 * o := upd_same _ _ _
  refine ⟨⟨fun hm => by omega, fun hm => ?_, fun hm => ?_, fun hm => ?_⟩, ?_, ?_⟩
  · have := h.o0 (by omega); exact ⟨by rw [e0]; omega, hl⟩
  · have := (h.o1 (by omega)).1; exact ⟨by rw [e0]; omega, hl⟩
  · intro j hj
    rcases Nat.eq_zero_or_pos j with hj0 | hj0
    · subst hj0; rw [e0]
      by_cases hm2 : m = 2
      · have := h.o2 hm2
        rcases Nat.eq_zero_or_pos o with ho | ho
        · omega
        · have := this.2.1 (by omega); omega
      · have := h.o3 (by omega); omega
    · exact hl j hj0 hj
  · have h1 := lv_upd f 0 (f 0 + 19 * o) (by omega)
    have h2 := h.val
    have w0 : lw 0 = 1 := rfl
    have w5 : lw 5 = fp + 19 := by rw [← fp_big]; rfl
    rw [w0] at h1; rw [w5] at h2
    have e : lv g = lv (upd f 0 (f 0 + 19 * o)) + fp * o := by rw [Nat.add_mul] at h2; omega
    rw [e, Nat.add_mul_mod_self_left]
  · rcases Nat.lt_or_ge m 3 with hm | hm
    · rcases m with _ | _ | _ | m
      · have := h.o0 rfl; omega
      · have := (h.o1 rfl).1; omega
      · have := (h.o2 rfl).1; omega
      · omega
    · have := h.o3 hm; omega
theorem Lim.zero {m : Nat} {f : Nat → Nat} (h : Lim m f) : Lim 0 f := by
  refine ⟨fun _ j hj => ?_, fun h => by omega, fun h => by omega, fun h => by omega⟩
  rcases m with _ | _ | _ | m
  · exact h.m0 rfl j hj
  · rcases Nat.eq_zero_or_pos j with h0 | h0
    · subst h0; have := (h.m1 rfl).1; omega
    · have := (h.m1 rfl).2 j h0 hj; omega
  · rcases Nat.eq_zero_or_pos j with h0 | h0
    · subst h0; have := (h.m2 rfl).1; omega
    · have := (h.m2 rfl).2 j h0 hj; omega
  · have := h.m3 (by omega) j hj; omega
theorem Lim.full {m : Nat} {f : Nat → Nat} (h : Lim m f) (hm : 3 ≤ m) : Lim 3 f := ⟨fun h => by omega, fun h => by omega, fun h => by omega, fun _ => h.m3 hm⟩
theorem Lim.two {f : Nat → Nat} (h : Lim 3 f) : Lim 2 f :=
  ⟨fun h => by omega, fun h => by omega, fun _ => ⟨by have := h.m3 (by omega) 0 (by omega); omega, fun j _ hj => h.m3 (by omega) j hj⟩, fun h => by omega⟩
theorem Lim.lt {f : Nat → Nat} (h : Lim 3 f) : lv f < fp + 19 := by
  have := h.m3 (by omega) 0 (by omega); have := h.m3 (by omega) 1 (by omega); have := h.m3 (by omega) 2 (by omega); have := h.m3 (by omega) 3 (by omega); have := h.m3 (by omega) 4 (by omega)
  rw [lv_eq, fp_eq]; omega
/-- 19 more, carried up to limb i. -/
structure Up (g : Nat → Nat) (i : Nat) (f : Nat → Nat) : Prop where
  lim : Lim 3 g
  low : ∀ j, j < i → f j < 2251799813685248
  at_ : f i ≤ g i + 19
  up : ∀ j, i < j → f j = g j
  val : lv f = lv g + 19
theorem Up.start {g : Nat → Nat} (h : Lim 3 g) : Up g 0 (upd g 0 (g 0 + 19)) := by
  refine ⟨h, fun j hj => by omega, by rw [upd_same]; omega, fun j hj => upd_other _ _ _ _ (by omega), ?_⟩
  have h1 := lv_upd g 0 (g 0 + 19) (by omega)
  rw [show lw 0 = 1 from rfl] at h1; omega
theorem Up.bound {g f : Nat → Nat} {i : Nat} (h : Up g i f) (hi : i < 5) : f i < 2251799813685248 + 19 := by have := h.lim.m3 (by omega) i hi; have := h.at_; omega
theorem Up.step {g f : Nat → Nat} {i : Nat} (h : Up g i f) (hi : i < 4) : Up g (i + 1) (upd (upd f (i + 1) (f (i + 1) + f i / 2251799813685248)) i (f i % 2251799813685248)) := by
  have hb := h.bound (by omega)
  refine ⟨h.lim, fun j hj => ?_, ?_, fun j hj => ?_, ?_⟩
  · by_cases e : j = i
    · subst e; rw [upd_same]; omega
    · rw [upd_other _ _ _ _ e, upd_other _ _ _ _ (by omega)]; exact h.low j (by omega)
  · rw [upd_other _ _ _ _ (by omega), upd_same, h.up (i + 1) (by omega)]; omega
  · rw [upd_other _ _ _ _ (by omega), upd_other _ _ _ _ (by omega)]; exact h.up j (by omega)
  · have h1 := lv_upd f (i + 1) (f (i + 1) + f i / 2251799813685248) (by omega)
    have h2 := lv_upd (upd f (i + 1) (f (i + 1) + f i / 2251799813685248)) i (f i % 2251799813685248) (by omega)
    rw [upd_other f _ _ i (by omega)] at h2
    have h3 := Nat.div_add_mod (f i) 2251799813685248
    have h4 := h.val
    rw [lw_succ, Nat.mul_add] at h1
    generalize f i / 2251799813685248 = d at h1 h2 h3 ⊢
    generalize f i % 2251799813685248 = r at h2 h3 ⊢
    have h5 : lw i * 2251799813685248 * d + lw i * r = lw i * f i := by rw [Nat.mul_assoc, ← Nat.mul_add, h3]
    omega
theorem Up.least {g f : Nat → Nat} (h : Up g 4 f) : (f 4 / 2251799813685248 = 0 → lv g % fp = lv g) ∧ (f 4 / 2251799813685248 ≠ 0 → Lim 3 (upd f 4 (f 4 % 2251799813685248)) ∧ lv (upd f 4 (f 4 % 2251799813685248)) = lv g % fp) := by
  have hb := h.bound (by omega)
  have hv := h.val
  have l0 := h.low 0 (by omega); have l1 := h.low 1 (by omega); have l2 := h.low 2 (by omega); have l3 := h.low 3 (by omega)
  refine ⟨fun h0 => ?_, fun h0 => ⟨⟨fun h => by omega, fun h => by omega, fun h => by omega, fun _ j hj => ?_⟩, ?_⟩⟩
  · apply Nat.mod_eq_of_lt
    rw [lv_eq f] at hv
    rw [fp_eq]; omega
  · by_cases e : j = 4
    · subst e; rw [upd_same]; omega
    · rw [upd_other _ _ _ _ e]; exact h.low j (by omega)
  · have h1 := lv_upd f 4 (f 4 % 2251799813685248) (by omega)
    have w4 : lw 4 * 2251799813685248 = fp + 19 := by rw [← lw_succ, ← fp_big]; rfl
    have h3 := Nat.div_add_mod (f 4) 2251799813685248
    have hlt := h.lim.lt
    have hd : f 4 / 2251799813685248 = 1 := by omega
    rw [hd] at h3
    have h5 : lw 4 * f 4 = fp + 19 + lw 4 * (f 4 % 2251799813685248) := by rw [← w4, ← Nat.mul_add]; congr 1; omega
    have e : lv g = lv (upd f 4 (f 4 % 2251799813685248)) + fp * 1 := by omega
    have h19 : 19 < fp := by rw [fp_eq]; omega
    have hl : lv (upd f 4 (f 4 % 2251799813685248)) < fp := by omega
    rw [e, Nat.add_mul_mod_self_left, Nat.mod_eq_of_lt hl]
end Go.Proofs.Ytpgichfagodkpaa.Fe
