/- The document's answer on scalars: digits of base 256; L; less. -/
import Derived.Test.YtpgichfagodkpaaOrdL
import Derived.Test.YtpgichfagodkpaaRows
namespace Go.Proofs.Ytpgichfagodkpaa
set_option linter.unusedVariables false
open Go Go.RowKit

/-- Digit i of a number, of base 256; a row of c digits. -/
@[irreducible] def digit (n i : Nat) : Int := ((n / 256 ^ i % 256 : Nat) : Int)
theorem digit_bd (n i : Nat) : 0 ≤ digit n i ∧ digit n i < 256 := by unfold digit; omega
theorem digit_eq (n i : Nat) : digit n i = ((n / 256 ^ i % 256 : Nat) : Int) := by unfold digit; rfl
def dcells (n c : Nat) : Array Value := ((List.range c).map fun j => Value.int .i64 (digit n j)).toArray
theorem dcells_size (n c : Nat) : (dcells n c).size = c := by simp [dcells]
theorem dcells_get (n c j : Nat) (h : j < c) : (dcells n c)[j]? = some (.int .i64 (digit n j)) := by simp [dcells, h]

theorem digit_add (D i v j : Nat) (hD : D < 256 ^ i) (hv : v < 256) : digit (D + 256 ^ i * v) j = if j = i then (v : Int) else digit D j := by
  unfold digit
  split
  · rename_i h; subst h
    rw [Nat.add_mul_div_left _ _ (Nat.pow_pos (by omega)), Nat.div_eq_of_lt hD]; omega
  · rename_i h
    congr 1
    rcases Nat.lt_or_gt_of_ne h with h | h
    · obtain ⟨d, hd⟩ : ∃ d, i = j + (1 + d) := ⟨i - j - 1, by omega⟩
      rw [hd, Nat.pow_add, Nat.pow_add, Nat.pow_one, Nat.mul_assoc, Nat.mul_assoc, Nat.add_mul_div_left _ _ (Nat.pow_pos (by omega))]
      omega
    · have hle : 256 ^ i * 256 ≤ 256 ^ j := by rw [← Nat.pow_succ]; exact Nat.pow_le_pow_right (by omega) (by omega)
      have h1 : 256 ^ i * (v + 1) ≤ 256 ^ i * 256 := Nat.mul_le_mul (Nat.le_refl _) (by omega)
      rw [Nat.mul_add] at h1
      rw [Nat.div_eq_of_lt (by omega), Nat.div_eq_of_lt (by omega)]
theorem dcells_step (D c i v : Nat) (hD : D < 256 ^ i) (hv : v < 256) : (dcells D c).setIfInBounds i (.int .i64 (v : Int)) = dcells (D + 256 ^ i * v) c := by
  apply Array.ext
  · simp [dcells]
  · intro j h1 h2
    rw [Array.getElem_setIfInBounds (by simpa using h1)]
    simp only [dcells, List.getElem_toArray, List.getElem_map, List.getElem_range]
    rw [digit_add D i v j hD hv]
    split
    · rename_i h; subst h; simp
    · rename_i h; rw [if_neg (by omega)]

theorem digit_mod (N k : Nat) : N % 256 ^ (k + 1) = N % 256 ^ k + 256 ^ k * (N / 256 ^ k % 256) := by
  rw [Nat.pow_succ, Nat.mod_mul]

/-- A slice from the head of a row of digits, kept in a world. -/
def DRow (w : World) (b c n : Nat) : Prop := ∀ j, j < c → w.cell? ⟨b, j, none⟩ = some (.int .i64 (digit n j))
theorem DRow.of {w : World} {b c n : Nat} {t : TypeId} (h : w.heap[b]? = some (.cells (dcells n c) t (0, 0))) : DRow w b c n := fun j hj => by
  rw [cell_of_row _ _ _ _ _ _ h]; exact dcells_get _ _ _ hj
theorem DRow.lt {w : World} {b c n : Nat} (h : DRow w b c n) (hc : 0 < c) : b < w.heap.size := World.block_lt_of_cell? w _ (h 0 hc)
theorem DRow.below {w w' : World} {B b c n : Nat} (h : DRow w b c n) (hb : Below B w w') (hB : b < B) : DRow w' b c n := fun j hj => by
  rw [hb.cell (p := ⟨b, j, none⟩) hB]; exact h j hj

set_option maxHeartbeats 400000 in
theorem refL_any (w : World) : Calls Try.prog 21 #[] w fun e w' => ∃ b, w.heap.size ≤ b ∧ e = .returned (.slice (some ⟨b, 0, none⟩) 32 32) ∧ DRow w' b 32 ordL ∧ Below w.heap.size w w' := by
  go_enter Try.func21, Try.ntmps21
  go_wp2
  go_returns
  refine ⟨w.heap.size, Nat.le_refl _, rfl, ?_, by go_grown⟩
  refine DRow.of (t := 3) ?_
  rw [heap_alloc_new]
  congr 2
  simp [dcells, digit, ordL, List.range, List.range.loop]

/-- The difference, i digits of it. -/
theorem less_step {X Y D u v u' i : Nat} (hD : D + Y % 256 ^ i = X % 256 ^ i + u * 256 ^ i) (hDl : D < 256 ^ i) 
    (hv : (v : Int) = digit X i - u - digit Y i + 256 * u') (hvl : v < 256) :
    D + 256 ^ i * v + Y % 256 ^ (i + 1) = X % 256 ^ (i + 1) + u' * 256 ^ (i + 1) ∧ D + 256 ^ i * v < 256 ^ (i + 1) := by
  rw [digit_mod, digit_mod]
  rw [digit_eq, digit_eq] at hv
  generalize X / 256 ^ i % 256 = x at hv ⊢
  generalize Y / 256 ^ i % 256 = y at hv ⊢
  generalize X % 256 ^ i = xl at hD ⊢
  generalize Y % 256 ^ i = yl at hD ⊢
  rw [Nat.pow_succ]
  generalize 256 ^ i = K at hD hDl ⊢
  have h1 : K * (v + u + y) = K * (x + 256 * u') := by congr 1; omega
  simp only [Nat.mul_add] at h1
  have e1 : u' * (K * 256) = K * (256 * u') := by rw [Nat.mul_comm K 256, ← Nat.mul_assoc, Nat.mul_comm u' 256, Nat.mul_comm (256 * u') K]
  have h2 : K * (v + 1) ≤ K * 256 := Nat.mul_le_mul (Nat.le_refl _) (by omega)
  rw [Nat.mul_add] at h2
  rw [Nat.mul_comm u K] at hD
  rw [e1]
  refine ⟨by omega, by omega⟩

structure LessSt (w : World) (g P o X Y i u : Nat) (wr : World) : Prop where
  x : DRow wr g 33 X
  y : DRow wr P 32 Y
  o : ∃ D, wr.heap[o]? = some (.cells (dcells D 33) 3 (0, 0)) ∧ D + Y % 256 ^ i = X % 256 ^ i + u * 256 ^ i ∧ D < 256 ^ i
  u : u ≤ 1
  below : Below w.heap.size w wr

theorem LessSt.step {w wr : World} {g P X Y k q D u' : Nat} {e : Int} (hx : DRow wr g 33 X) (hy : DRow wr P 32 Y) (ho : wr.heap[w.heap.size]? = some (.cells (dcells D 33) 3 (0, 0)))
    (hD : D + Y % 256 ^ k = X % 256 ^ k + q * 256 ^ k) (hDl : D < 256 ^ k) (hbel : Below w.heap.size w wr) (hg : g < w.heap.size) (hP : P < w.heap.size)
    (hu : u' ≤ 1) (he : 0 ≤ e ∧ e < 256) (hv : e = digit X k - q - digit Y k + 256 * u') : LessSt w g P w.heap.size X Y (k + 1) u' (wr.setCell ⟨w.heap.size, k, none⟩ (.int .i64 e)) := by
  obtain ⟨v, rfl⟩ := Int.eq_ofNat_of_zero_le he.1
  obtain ⟨h1, h2⟩ := less_step hD hDl hv (by omega)
  have hb2 : Below w.heap.size wr (wr.setCell ⟨w.heap.size, k, none⟩ (.int .i64 (v : Int))) := Below.setCell (p := ⟨w.heap.size, k, none⟩) (Below.refl _ _) (Nat.le_refl _) _
  exact ⟨hx.below hb2 hg, hy.below hb2 hP, ⟨_, by rw [heap_setCell_same _ _ _ _ _ _ ho, dcells_step _ _ _ _ hDl (by omega)], h1, h2⟩, hu, hbel.setCell (Nat.le_refl _) _⟩

set_option maxHeartbeats 1000000 in
theorem refLess_any (X Y g P cap1 : Nat) (w : World) (hX : DRow w g 33 X) (hY : DRow w P 32 Y) (hYl : Y < 256 ^ 32) (_hcap : 33 ≤ cap1) :
    Calls Try.prog 46 #[.slice (some ⟨g, 0, none⟩) 33 cap1, .slice (some ⟨P, 0, none⟩) 32 32] w fun e w' => ∃ b D, w.heap.size ≤ b ∧ e = .returned (.tuple #[.slice (some ⟨b, 0, none⟩) 33 33, .bool (decide (Y ≤ X % 256 ^ 33))]) ∧ DRow w' b 33 D ∧ (Y ≤ X % 256 ^ 33 → D = X % 256 ^ 33 - Y) ∧ Below w.heap.size w w' := by
  have hg := hX.lt (by omega)
  have hP := hY.lt (by omega)
  have hmk : ∀ w, (Instr.makeSlice 32 (.int .i64 33) (.int .i64 33)).run Try.prog w = .ok (.slice (some ⟨w.heap.size, 0, none⟩) 33 33) (w.alloc (.cells (dcells 0 33) 3)) := fun _ => by kernel_rfl
  have hst : LessSt w g P w.heap.size X Y 0 0 (w.alloc (.cells (dcells 0 33) 3)) :=
    ⟨hX.below ((Below.refl _ _).alloc (Nat.le_refl _) _) hg, hY.below ((Below.refl _ _).alloc (Nat.le_refl _) _) hP, ⟨0, by rw [heap_alloc_new], by simp [Nat.mod_one], by simp⟩, by omega, (Below.refl _ _).alloc (Nat.le_refl _) _⟩
  have HS := Box.mk hst; clear hst
  have HX := Box.mk hX; clear hX
  have HY := Box.mk hY; clear hY
  have HYL := Box.mk hYl; clear hYl
  go_enter Try.func46, Try.ntmps46
  go_wp2
  go_loopw [7, 8] (fun u i wr => ∃ k q : Nat, k ≤ 33 ∧ i = .int .i64 k ∧ u = .int .i64 q ∧ LessSt w g P w.heap.size X Y k q wr) (fun _ i _ => 33 - (intOf i).toNat)
  case atStart => exact ⟨0, 0, by omega, rfl, rfl, HS.out⟩
  case round =>
    clear HS
    obtain ⟨k, q, hk, rfl, rfl, hs⟩ := hrel
    obtain ⟨hx, hy, ⟨D, ho, hD, hDl⟩, hq, hbel⟩ := hs
    by_cases hlt : k < 33
    · have c1 := hx k hlt
      have c3 : wr.cell? ⟨w.heap.size, k, none⟩ = some (.int .i64 (digit D k)) := by rw [cell_of_row _ _ _ _ _ _ ho]; exact dcells_get _ _ _ hlt
      have f3 : wr.frozen? ⟨w.heap.size, k, none⟩ = false := frozen_of_row _ _ _ _ _ ho
      have bx := digit_bd X k; have b2 := digit_bd Y k
      have HST := Box.mk (fun (e : Int) (u' : Nat) hu he hv => LessSt.step (e := e) (u' := u') hx hy ho hD hDl hbel hg hP hu he hv)
      clear ho hD hDl hbel hx
      by_cases h32 : k < 32
      · have c2 := hy k h32
        clear hy
        go_wp2
        all_goals go_roundw
        case rel => exact ⟨k + 1, 1, by omega, by go_num, rfl, HST.out _ 1 (by omega) (by omega) (by omega)⟩
        case measure => simp [intOf]; omega
        case rel => exact ⟨k + 1, 0, by omega, by go_num, rfl, HST.out _ 0 (by omega) (by omega) (by omega)⟩
        case measure => simp [intOf]; omega
      · have h0 : digit Y k = 0 := by
          have : k = 32 := by omega
          subst this
          rw [digit_eq, Nat.div_eq_of_lt HYL.out]; rfl
        have H0 := Box.mk h0; clear h0 hy
        go_wp2
        all_goals go_roundw
        case rel => exact ⟨k + 1, 1, by omega, by go_num, rfl, HST.out _ 1 (by omega) (by omega) (by rw [H0.out]; omega)⟩
        case measure => simp [intOf]; omega
        case rel => exact ⟨k + 1, 0, by omega, by go_num, rfl, HST.out _ 0 (by omega) (by omega) (by rw [H0.out]; omega)⟩
        case measure => simp [intOf]; omega
    · have hk3 : k = 33 := by omega
      subst hk3
      have HO := Box.mk ho; clear ho
      have HD := Box.mk hD; clear hD
      have HDL := Box.mk hDl; clear hDl hx hy
      go_wp2
      go_ret2
      refine ⟨w.heap.size, D, Nat.le_refl _, ?_, DRow.of HO.out, ?_, hbel⟩
      · have h := HD.out
        have hl := HDL.out
        rw [Nat.mod_eq_of_lt (a := Y) (Nat.lt_trans HYL.out (Nat.pow_lt_pow_right (by omega) (by omega)))] at h
        have e : (((q : Int) == 0)) = decide (Y ≤ X % 256 ^ 33) := by
          rw [Bool.eq_iff_iff, beq_iff_eq, decide_eq_true_iff]; omega
        rw [← e]; rfl
      · intro hle
        have h := HD.out
        have hl := HDL.out
        rw [Nat.mod_eq_of_lt (a := Y) (Nat.lt_trans HYL.out (Nat.pow_lt_pow_right (by omega) (by omega)))] at h
        omega
end Go.Proofs.Ytpgichfagodkpaa
