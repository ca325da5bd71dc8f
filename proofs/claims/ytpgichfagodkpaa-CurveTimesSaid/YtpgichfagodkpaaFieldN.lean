/- Numbers of 16 digits of base 65536: plain laws. Nothing of the program. -/
import Derived.Test.YtpgichfagodkpaaFieldM
namespace Go.Proofs.Ytpgichfagodkpaa.Fe
set_option linter.unusedVariables false
open Go Go.RowKit

def ncell (f : Nat → Nat) : Array Value := #[.int .i64 (f 0 : Nat), .int .i64 (f 1 : Nat), .int .i64 (f 2 : Nat), .int .i64 (f 3 : Nat), .int .i64 (f 4 : Nat), .int .i64 (f 5 : Nat), .int .i64 (f 6 : Nat), .int .i64 (f 7 : Nat), .int .i64 (f 8 : Nat), .int .i64 (f 9 : Nat), .int .i64 (f 10 : Nat), .int .i64 (f 11 : Nat), .int .i64 (f 12 : Nat), .int .i64 (f 13 : Nat), .int .i64 (f 14 : Nat), .int .i64 (f 15 : Nat)]
theorem ncell_get (f : Nat → Nat) (i : Nat) (hi : i < 16) : (ncell f)[i]? = some (.int .i64 (f i : Nat)) := by
  match i, hi with
  | 0, _ => rfl
  | 1, _ => rfl
  | 2, _ => rfl
  | 3, _ => rfl
  | 4, _ => rfl
  | 5, _ => rfl
  | 6, _ => rfl
  | 7, _ => rfl
  | 8, _ => rfl
  | 9, _ => rfl
  | 10, _ => rfl
  | 11, _ => rfl
  | 12, _ => rfl
  | 13, _ => rfl
  | 14, _ => rfl
  | 15, _ => rfl
  | n + 16, h => exact absurd h (by omega)
theorem ncell_set (f : Nat → Nat) (i : Nat) (hi : i < 16) (x : Nat) (y : Int) (hy : y = x) : (ncell f).setIfInBounds i (.int .i64 y) = ncell (upd f i x) := by
  subst hy
  match i, hi with
  | 0, _ => rfl
  | 1, _ => rfl
  | 2, _ => rfl
  | 3, _ => rfl
  | 4, _ => rfl
  | 5, _ => rfl
  | 6, _ => rfl
  | 7, _ => rfl
  | 8, _ => rfl
  | 9, _ => rfl
  | 10, _ => rfl
  | 11, _ => rfl
  | 12, _ => rfl
  | 13, _ => rfl
  | 14, _ => rfl
  | 15, _ => rfl
  | n + 16, h => exact absurd h (by omega)
theorem ncell_one (f : Nat → Nat) : (ncell f).all (·.oneCell') = true := by simp [ncell, Value.oneCell']
/-- A digit's weight; the first k digits' number. -/
def dw (i : Nat) : Nat := 2 ^ (16 * i)
theorem dw_succ (i : Nat) : dw (i + 1) = dw i * 65536 := by unfold dw; rw [Nat.mul_add, Nat.pow_add]
theorem dw_pos (i : Nat) : 0 < dw i := Nat.two_pow_pos _
def pn (f : Nat → Nat) : Nat → Nat
  | 0 => 0
  | k + 1 => pn f k + dw k * f k
def nv (f : Nat → Nat) : Nat := pn f 16
def Dig (f : Nat → Nat) : Prop := ∀ j, j < 16 → f j < 65536
theorem pn_congr {f g : Nat → Nat} : ∀ k, (∀ j, j < k → f j = g j) → pn f k = pn g k
  | 0, _ => rfl
  | k + 1, h => by rw [pn, pn, pn_congr k (fun j hj => h j (by omega)), h k (by omega)]
theorem pn_upd_ge (f : Nat → Nat) (i x k : Nat) (h : k ≤ i) : pn (upd f i x) k = pn f k := pn_congr k fun j hj => upd_other _ _ _ _ (by omega)
theorem pn_upd (f : Nat → Nat) (i x : Nat) : ∀ k, i < k → pn (upd f i x) k + dw i * f i = pn f k + dw i * x
  | 0, h => by omega
  | k + 1, h => by
    rw [pn, pn]
    by_cases e : i = k
    · subst e; rw [pn_upd_ge _ _ _ _ (Nat.le_refl _), upd_same]; omega
    · rw [upd_other _ _ _ _ (fun h => e h.symm)]; have := pn_upd f i x k (by omega); omega
theorem nv_upd (f : Nat → Nat) (i x : Nat) (h : i < 16) : nv (upd f i x) + dw i * f i = nv f + dw i * x := pn_upd f i x 16 h
theorem pn_lt {f : Nat → Nat} : ∀ k, (∀ j, j < k → f j < 65536) → pn f k < dw k
  | 0, _ => by simp [pn, dw]
  | k + 1, h => by
    have h1 := pn_lt k (fun j hj => h j (by omega))
    have h2 := h k (by omega)
    rw [pn, dw_succ]
    have : dw k * f k + dw k ≤ dw k * 65536 := by
      have := Nat.mul_le_mul (Nat.le_refl (dw k)) (show f k + 1 ≤ 65536 by omega)
      rw [Nat.mul_add, Nat.mul_one] at this; exact this
    omega
theorem nv_lt {f : Nat → Nat} (h : Dig f) : nv f < dw 16 := pn_lt 16 h
/-- Below: the highest digits that differ decide. -/
theorem pn_above {f g : Nat → Nat} (i : Nat) : ∀ d, (∀ j, i ≤ j → j < i + d → f j = g j) → ∃ c, pn f (i + d) = pn f i + c ∧ pn g (i + d) = pn g i + c
  | 0, _ => ⟨0, rfl, rfl⟩
  | d + 1, h => by
    obtain ⟨c, h1, h2⟩ := pn_above i d (fun j a b => h j a (by omega))
    refine ⟨c + dw (i + d) * f (i + d), ?_, ?_⟩
    · rw [show i + (d + 1) = i + d + 1 from by omega, pn, h1]; omega
    · rw [show i + (d + 1) = i + d + 1 from by omega, pn, h2, h (i + d) (by omega) (by omega)]; omega
theorem nv_above {f g : Nat → Nat} (i : Nat) (hi : i ≤ 16) (h : ∀ j, i ≤ j → j < 16 → f j = g j) : ∃ c, nv f = pn f i + c ∧ nv g = pn g i + c := by
  have := pn_above (f := f) (g := g) i (16 - i) (fun j a b => h j a (by omega))
  rwa [show i + (16 - i) = 16 from by omega] at this
theorem nv_below {f g : Nat → Nat} (hf : Dig f) (hg : Dig g) (i : Nat) (hi : i < 16) (h : ∀ j, i < j → j < 16 → f j = g j) (hne : f i ≠ g i) : (nv f < nv g) ↔ f i < g i := by
  obtain ⟨c, h1, h2⟩ := nv_above (f := f) (g := g) (i + 1) (by omega) (fun j a b => h j (by omega) b)
  rw [pn] at h1 h2
  have a := pn_lt (f := f) i (fun j hj => hf j (by omega))
  have b := pn_lt (f := g) i (fun j hj => hg j (by omega))
  have key : ∀ x y : Nat, x < y → dw i * x + dw i ≤ dw i * y := fun x y hxy => by
    have := Nat.mul_le_mul (Nat.le_refl (dw i)) hxy
    rw [Nat.mul_succ] at this; exact this
  constructor
  · intro hlt
    rcases Nat.lt_or_gt_of_ne hne with hl | hl
    · exact hl
    · have := key _ _ hl; omega
  · intro hl
    have := key _ _ hl; omega
theorem nv_same {f g : Nat → Nat} (h : ∀ j, j < 16 → f j = g j) : nv f = nv g := pn_congr 16 h
/-- less: i digits are done. -/
structure Les (f g : Nat → Nat) (i : Nat) (h : Nat → Nat) (u : Nat) : Prop where
  low : ∀ j, j < i → h j < 65536
  up : ∀ j, i ≤ j → h j = f j
  bor : u ≤ 1
  val : pn h i + pn g i = pn f i + dw i * u
theorem Les.start (f g : Nat → Nat) : Les f g 0 f 0 := ⟨fun j hj => by omega, fun _ _ => rfl, by omega, by simp [pn]⟩
theorem Les.step {f g h : Nat → Nat} {i u : Nat} (l : Les f g i h u) (hf : f i < 65536) (hg : g i < 65536) (x v : Nat) (hv : v ≤ 1) (hx : x + g i + u = f i + 65536 * v) (hxb : x < 65536) : Les f g (i + 1) (upd h i x) v := by
  refine ⟨fun j hj => ?_, fun j hj => ?_, hv, ?_⟩
  · by_cases e : j = i
    · subst e; rw [upd_same]; exact hxb
    · rw [upd_other _ _ _ _ e]; exact l.low j (by omega)
  · rw [upd_other _ _ _ _ (by omega)]; exact l.up j (by omega)
  · rw [pn, pn, pn, pn_upd_ge _ _ _ _ (Nat.le_refl _), upd_same, dw_succ]
    have h1 := l.val
    have h2 : dw i * x + dw i * g i + dw i * u = dw i * f i + dw i * 65536 * v := by
      rw [← Nat.mul_add, ← Nat.mul_add, hx, Nat.mul_add, Nat.mul_assoc]
    omega
theorem Les.done {f g h : Nat → Nat} {u : Nat} (l : Les f g 16 h u) (hf : Dig f) (hle : nv g ≤ nv f) : Dig h ∧ nv h = nv f - nv g := by
  have h1 := l.val
  have h2 := nv_lt (f := h) l.low
  have hu : u = 0 := by
    rcases Nat.eq_zero_or_pos u with h0 | h0
    · exact h0
    · have hu1 : u = 1 := by have := l.bor; omega
      rw [hu1, Nat.mul_one] at h1
      unfold nv at h2 hle
      omega
  rw [hu, Nat.mul_zero, Nat.add_zero] at h1
  refine ⟨l.low, ?_⟩
  unfold nv at hle ⊢
  omega
/-- mod: a pass of carries, of digits below B. -/
structure Mds (f : Nat → Nat) (i : Nat) (h : Nat → Nat) (o : Nat) : Prop where
  low : ∀ j, j < i → h j < 65536
  up : ∀ j, i ≤ j → h j = f j
  val : pn h i + dw i * o = pn f i
theorem Mds.start (f : Nat → Nat) : Mds f 0 f 0 := ⟨fun j hj => by omega, fun _ _ => rfl, by simp [pn]⟩
theorem Mds.step {f h : Nat → Nat} {i o : Nat} (m : Mds f i h o) : Mds f (i + 1) (upd h i ((f i + o) % 65536)) ((f i + o) / 65536) := by
  refine ⟨fun j hj => ?_, fun j hj => ?_, ?_⟩
  · by_cases e : j = i
    · subst e; rw [upd_same]; omega
    · rw [upd_other _ _ _ _ e]; exact m.low j (by omega)
  · rw [upd_other _ _ _ _ (by omega)]; exact m.up j (by omega)
  · rw [pn, pn, pn_upd_ge _ _ _ _ (Nat.le_refl _), upd_same, dw_succ]
    have h1 := m.val
    have h3 := Nat.div_add_mod (f i + o) 65536
    generalize (f i + o) / 65536 = d at h3 ⊢
    generalize (f i + o) % 65536 = r at h3 ⊢
    have h2 : dw i * 65536 * d + dw i * r = dw i * f i + dw i * o := by rw [Nat.mul_assoc, ← Nat.mul_add, ← Nat.mul_add, h3]
    omega
theorem dw16 : dw 16 = 2 * fp + 38 := by
  have : dw 16 = 2 * 2 ^ 255 := by unfold dw; rw [← Nat.pow_succ']
  rw [this, fp_big]; omega
/-- Behind a pass: the number is the same modulo p; where something was carried, it is less. -/
theorem Mds.done {f h : Nat → Nat} {o : Nat} (m : Mds f 16 h o) : nv (upd h 0 (h 0 + 38 * o)) % fp = nv f % fp ∧ nv (upd h 0 (h 0 + 38 * o)) + 2 * fp * o = nv f ∧ (o = 0 → Dig (upd h 0 (h 0 + 38 * o))) := by
  have h1 := nv_upd h 0 (h 0 + 38 * o) (by omega)
  have h2 := m.val
  rw [show dw 0 = 1 from rfl] at h1
  rw [dw16, Nat.add_mul] at h2
  have e : nv (upd h 0 (h 0 + 38 * o)) + 2 * fp * o = nv f := by unfold nv at h1 ⊢; omega
  refine ⟨?_, e, fun ho j hj => ?_⟩
  · rw [← e, Nat.mul_comm 2 fp, Nat.mul_assoc, Nat.add_mul_mod_self_left]
  · subst ho
    by_cases e : j = 0
    · subst e; rw [upd_same]; have := m.low 0 (by omega); omega
    · rw [upd_other _ _ _ _ e]; exact m.low j hj
end Go.Proofs.Ytpgichfagodkpaa.Fe
