/- The document's part of a flash: New. -/
import Derived.Test.YtaeomiedmjedgaaPartRefB
namespace Go.Proofs.Ytaeomiedmjedgaa
set_option linter.unusedVariables false
open Go Go.RowKit

set_option maxHeartbeats 2000000 in
theorem rpnew_yes (p bb cb : Nat) (F B : Int) (s : FS) (w : World) (hf : Fl 64 w p bb cb s) (hi : In s.n.length F B) :
    Calls Try.prog 26 #[.pointer (some ⟨p, 0, none⟩), .agg #[.int .i64 F, .int .i64 B]] w fun e w' => ∃ q, e = .returned (.tuple #[.pointer (some ⟨q, 0, none⟩), .int .i64 0]) ∧ RPa w' q p F B ∧ w.heap.size ≤ q ∧ Below w.heap.size w w' := by
  have h1 : decide (F < 0) = false := by rw [decide_eq_false_iff_not]; have := hi.lo; omega
  have h2 : decide (B < 1) = false := by rw [decide_eq_false_iff_not]; have := hi.some; omega
  obtain ⟨n, hn⟩ : ∃ n, n = s.n.length := ⟨_, rfl⟩
  have h3 : decide ((n : Int) < F) = false := by rw [decide_eq_false_iff_not]; have := hi.hi; have := hi.some; omega
  have hw : IntKind.i64.wrap ((n : Int) - F) = (n : Int) - F := by rw [IntKind.wrap_i64]; have := hi.hi; have := hi.lo; have := hi.few; have := hi.some; omega
  have h4 : decide ((n : Int) - F < B) = false := by rw [decide_eq_false_iff_not]; have := hi.hi; omega
  obtain ⟨w1, hw1⟩ : ∃ w1, w1 = w.alloc (.cells #[.int .i64 F, .int .i64 B] 28) := ⟨_, rfl⟩
  have hb1 : Below w.heap.size w w1 := by rw [hw1]; exact (Below.refl _ _).alloc (Nat.le_refl _) _
  have r1 : w1.heap[w.heap.size]? = some (.cells #[.int .i64 F, .int .i64 B] 28 (0, 0)) := by rw [hw1]; exact heap_alloc_new _ _
  have c0 : w1.cell? ⟨w.heap.size, 0, none⟩ = some (.int .i64 F) := (cell_of_row _ _ _ _ _ _ r1).trans rfl
  have c1 : w1.cell? ⟨w.heap.size, 1, none⟩ = some (.int .i64 B) := (cell_of_row _ _ _ _ _ _ r1).trans rfl
  obtain ⟨bcap, ccap, hb, hc, d0, d1, d2, d3, d4, d5, d6⟩ := (hf.upd (Upd.of_below hb1) (S := []) (by simp) (by simp) (by simp)).cells
  rw [← hn] at d1
  have B1 := Box.mk hb1
  clear hn hf hi r1 hb1 d0 d2 d3 d4 d5 d6 hb hc
  go_enter Try.func26, Try.ntmps26
  go_upto_region 1 with (fail)
  rw [← hw1]
  clear hw1
  go_wp2_with fail
  go_ret2
  exact ⟨w1.heap.size, rfl, ⟨heap_alloc_new _ _⟩, B1.out.size, B1.out.alloc B1.out.size _⟩
set_option maxHeartbeats 2000000 in
theorem rpnew_no (p bb cb : Nat) (F B : Int) (s : FS) (w : World) (hf : Fl 64 w p bb cb s) (hok : s.Ok) (hi : ¬ In s.n.length F B) (bF : -9223372036854775808 ≤ F ∧ F ≤ 9223372036854775807) :
    Calls Try.prog 26 #[.pointer (some ⟨p, 0, none⟩), .agg #[.int .i64 F, .int .i64 B]] w fun e w' => e = .returned (.tuple #[.pointer none, .int .i64 120]) ∧ Below w.heap.size w w' := by
  have hfew := hok.few
  obtain ⟨n, hn⟩ : ∃ n, n = s.n.length := ⟨_, rfl⟩
  have hi' : ¬ (0 ≤ F ∧ 1 ≤ B ∧ F + B ≤ (n : Int)) := fun ⟨a, b, c⟩ => hi ⟨a, b, by rw [← hn]; exact c, hfew.2⟩
  rw [← hn] at hfew
  obtain ⟨w1, hw1⟩ : ∃ w1, w1 = w.alloc (.cells #[.int .i64 F, .int .i64 B] 28) := ⟨_, rfl⟩
  have hb1 : Below w.heap.size w w1 := by rw [hw1]; exact (Below.refl _ _).alloc (Nat.le_refl _) _
  have r1 : w1.heap[w.heap.size]? = some (.cells #[.int .i64 F, .int .i64 B] 28 (0, 0)) := by rw [hw1]; exact heap_alloc_new _ _
  have c0 : w1.cell? ⟨w.heap.size, 0, none⟩ = some (.int .i64 F) := (cell_of_row _ _ _ _ _ _ r1).trans rfl
  have c1 : w1.cell? ⟨w.heap.size, 1, none⟩ = some (.int .i64 B) := (cell_of_row _ _ _ _ _ _ r1).trans rfl
  obtain ⟨bcap, ccap, hb, hc, d0, d1, d2, d3, d4, d5, d6⟩ := (hf.upd (Upd.of_below hb1) (S := []) (by simp) (by simp) (by simp)).cells
  rw [← hn] at d1
  have B1 := Box.mk hb1
  clear hn hf hi r1 hb1 hok d0 d2 d3 d4 d5 d6 hb hc
  by_cases g1 : F < 0
  · have h1 : decide (F < 0) = true := by simpa using g1
    clear hi' g1
    go_enter Try.func26, Try.ntmps26
    go_upto_region 1 with (fail)
    rw [← hw1]
    clear hw1
    go_wp2_with fail
    go_ret2
    exact ⟨rfl, B1.out⟩
  · have h1 : decide (F < 0) = false := by simpa using g1
    by_cases g2 : B < 1
    · have h2 : decide (B < 1) = true := by simpa using g2
      clear hi' g1 g2
      go_enter Try.func26, Try.ntmps26
      go_upto_region 1 with (fail)
      rw [← hw1]
      clear hw1
      go_wp2_with fail
      go_ret2
      exact ⟨rfl, B1.out⟩
    · have h2 : decide (B < 1) = false := by simpa using g2
      by_cases g3 : (n : Int) < F
      · have h3 : decide ((n : Int) < F) = true := by simpa using g3
        clear hi' g1 g2 g3
        go_enter Try.func26, Try.ntmps26
        go_upto_region 1 with (fail)
        rw [← hw1]
        clear hw1
        go_wp2_with fail
        go_ret2
        exact ⟨rfl, B1.out⟩
      · have h3 : decide ((n : Int) < F) = false := by simpa using g3
        have hw : IntKind.i64.wrap ((n : Int) - F) = (n : Int) - F := by rw [IntKind.wrap_i64]; omega
        have h4 : decide ((n : Int) - F < B) = true := by rw [decide_eq_true_eq]; omega
        clear hi' g1 g2 g3
        go_enter Try.func26, Try.ntmps26
        go_upto_region 1 with (fail)
        rw [← hw1]
        clear hw1
        go_wp2_with fail
        go_ret2
        exact ⟨rfl, B1.out⟩
end Go.Proofs.Ytaeomiedmjedgaa
