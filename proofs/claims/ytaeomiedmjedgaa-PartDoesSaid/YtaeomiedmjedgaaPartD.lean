/- A part of a flash: New. -/
import Derived.Test.YtaeomiedmjedgaaPartC
namespace Go.Proofs.Ytaeomiedmjedgaa
set_option linter.unusedVariables false
open Go Go.RowKit

theorem quiet_calls {P : Program} {f : FuncId} {args : Array Value} {w : World} {n : Nat} {v : Value}
    (h : Calls P f args (w.drewN n) fun e w' => e = .returned v ∧ w.drewN n = w') : Calls P f args (w.drewN n) fun e w'' => e = .returned v ∧ ∃ m, w'' = w.drewN m :=
  h.mono fun _ _ ⟨he, hm⟩ => ⟨he, n, hm.symm⟩
theorem belD {B : Nat} {a w : World} (h : Below B a w) (n : Nat) : Below B a (w.drewN n) := ⟨h.os, h.tape, h.output, h.size, h.block⟩
set_option maxHeartbeats 2000000 in
theorem pnew_yes (p bb cb : Nat) (F B : Int) (s : FS) (w : World) (hf : Fl 75 w p bb cb s) (hi : In s.n.length F B) :
    Calls Try.prog 12 #[.pointer (some ⟨p, 0, none⟩), .agg #[.int .i64 F, .int .i64 B]] w fun e w' => ∃ q, e = .returned (.tuple #[.pointer (some ⟨q, 0, none⟩), .int .i64 0]) ∧ Pa w' q p F B ∧ w.heap.size ≤ q ∧ Below w.heap.size w w' := by
  have h1 : decide (F < 0) = false := by rw [decide_eq_false_iff_not]; have := hi.lo; omega
  have h2 : decide (B < 1) = false := by rw [decide_eq_false_iff_not]; have := hi.some; omega
  obtain ⟨n, hn⟩ : ∃ n, n = s.n.length := ⟨_, rfl⟩
  have h3 : decide ((n : Int) < F) = false := by rw [decide_eq_false_iff_not]; have := hi.hi; have := hi.some; omega
  have hw : IntKind.i64.wrap ((n : Int) - F) = (n : Int) - F := by rw [IntKind.wrap_i64]; have := hi.hi; have := hi.lo; have := hi.few; have := hi.some; omega
  have h4 : decide ((n : Int) - F < B) = false := by rw [decide_eq_false_iff_not]; have := hi.hi; omega
  obtain ⟨w1, hw1⟩ : ∃ w1, w1 = w.alloc (.cells #[.int .i64 F, .int .i64 B] 28) := ⟨_, rfl⟩
  have hb1 : Below w.heap.size w w1 := by rw [hw1]; exact (Below.refl _ _).alloc (Nat.le_refl _) _
  have r1 : w1.heap[w.heap.size]? = some (.cells #[.int .i64 F, .int .i64 B] 28 (0, 0)) := by rw [hw1]; exact heap_alloc_new _ _
  have c0 : w1.cell? ⟨w.heap.size, 0, none⟩ = some (.int .i64 F) := (cell_of_row _ _ _ _ _ _ r1).trans rfl
  have c1 : w1.cell? ⟨w.heap.size, 1, none⟩ = some (.int .i64 B) := (cell_of_row _ _ _ _ _ _ r1).trans rfl
  have BL := Box.mk (fun k => blocks_any p bb cb s (w1.drewN k) (((hf.upd (Upd.of_below hb1) (S := []) (by simp) (by simp) (by simp))).upd ((Upd.refl [] _).drewN k) (by simp) (by simp) (by simp)))
  rw [← hn] at BL
  have B1 := Box.mk hb1
  clear hn hf hi r1 hb1
  go_enter Try.func12, Try.ntmps12
  go_upto_region 1 with (fail)
  rw [← hw1]
  clear hw1
  go_quiet ((go_at_call 43; exact quiet_calls (BL.out _)))
  have C0 : (w1.drewN nq).cell? ⟨w.heap.size, 0, none⟩ = some (.int .i64 F) := c0
  have C1 : (w1.drewN nq).cell? ⟨w.heap.size, 1, none⟩ = some (.int .i64 B) := c1
  have B2 := Box.mk (belD B1.out nq)
  clear c0 c1 BL B1
  generalize w1.drewN nq = w2 at C0 C1 B2 ⊢
  go_wp2_with fail
  go_ret2
  exact ⟨w2.heap.size, rfl, ⟨heap_alloc_new _ _⟩, B2.out.size, B2.out.alloc B2.out.size _⟩
set_option maxHeartbeats 2000000 in
theorem pnew_no (p bb cb : Nat) (F B : Int) (s : FS) (w : World) (hf : Fl 75 w p bb cb s) (hok : s.Ok) (hi : ¬ In s.n.length F B) (bF : -9223372036854775808 ≤ F ∧ F ≤ 9223372036854775807) :
    Calls Try.prog 12 #[.pointer (some ⟨p, 0, none⟩), .agg #[.int .i64 F, .int .i64 B]] w fun e w' => e = .returned (.tuple #[.pointer none, .int .i64 120]) ∧ Below w.heap.size w w' := by
  have hfew := hok.few
  obtain ⟨n, hn⟩ : ∃ n, n = s.n.length := ⟨_, rfl⟩
  have hi' : ¬ (0 ≤ F ∧ 1 ≤ B ∧ F + B ≤ (n : Int)) := fun ⟨a, b, c⟩ => hi ⟨a, b, by rw [← hn]; exact c, hfew.2⟩
  rw [← hn] at hfew
  obtain ⟨w1, hw1⟩ : ∃ w1, w1 = w.alloc (.cells #[.int .i64 F, .int .i64 B] 28) := ⟨_, rfl⟩
  have hb1 : Below w.heap.size w w1 := by rw [hw1]; exact (Below.refl _ _).alloc (Nat.le_refl _) _
  have r1 : w1.heap[w.heap.size]? = some (.cells #[.int .i64 F, .int .i64 B] 28 (0, 0)) := by rw [hw1]; exact heap_alloc_new _ _
  have c0 : w1.cell? ⟨w.heap.size, 0, none⟩ = some (.int .i64 F) := (cell_of_row _ _ _ _ _ _ r1).trans rfl
  have c1 : w1.cell? ⟨w.heap.size, 1, none⟩ = some (.int .i64 B) := (cell_of_row _ _ _ _ _ _ r1).trans rfl
  have BL := Box.mk (fun k => blocks_any p bb cb s (w1.drewN k) (((hf.upd (Upd.of_below hb1) (S := []) (by simp) (by simp) (by simp))).upd ((Upd.refl [] _).drewN k) (by simp) (by simp) (by simp)))
  rw [← hn] at BL
  have B1 := Box.mk hb1
  clear hn hf hi r1 hb1 hok
  by_cases g1 : F < 0
  · have h1 : decide (F < 0) = true := by simpa using g1
    clear hi' g1
    go_enter Try.func12, Try.ntmps12
    go_upto_region 1 with (fail)
    rw [← hw1]
    clear hw1
    go_quiet ((go_at_call 43; exact quiet_calls (BL.out _)))
    have B2 := Box.mk (belD B1.out nq)
    clear c0 c1 BL B1
    go_wp2_with fail
    go_ret2
    exact ⟨rfl, B2.out⟩
  · have h1 : decide (F < 0) = false := by simpa using g1
    by_cases g2 : B < 1
    · have h2 : decide (B < 1) = true := by simpa using g2
      clear hi' g1 g2
      go_enter Try.func12, Try.ntmps12
      go_upto_region 1 with (fail)
      rw [← hw1]
      clear hw1
      go_quiet ((go_at_call 43; exact quiet_calls (BL.out _)))
      have B2 := Box.mk (belD B1.out nq)
      clear c0 c1 BL B1
      go_wp2_with fail
      go_ret2
      exact ⟨rfl, B2.out⟩
    · have h2 : decide (B < 1) = false := by simpa using g2
      by_cases g3 : (n : Int) < F
      · have h3 : decide ((n : Int) < F) = true := by simpa using g3
        clear hi' g1 g2 g3
        go_enter Try.func12, Try.ntmps12
        go_upto_region 1 with (fail)
        rw [← hw1]
        clear hw1
        go_quiet ((go_at_call 43; exact quiet_calls (BL.out _)))
        have B2 := Box.mk (belD B1.out nq)
        clear c0 c1 BL B1
        go_wp2_with fail
        go_ret2
        exact ⟨rfl, B2.out⟩
      · have h3 : decide ((n : Int) < F) = false := by simpa using g3
        have hw : IntKind.i64.wrap ((n : Int) - F) = (n : Int) - F := by rw [IntKind.wrap_i64]; omega
        have h4 : decide ((n : Int) - F < B) = true := by rw [decide_eq_true_eq]; omega
        clear hi' g1 g2 g3
        go_enter Try.func12, Try.ntmps12
        go_upto_region 1 with (fail)
        rw [← hw1]
        clear hw1
        go_quiet ((go_at_call 43; exact quiet_calls (BL.out _)))
        have B2 := Box.mk (belD B1.out nq)
        clear c0 c1 BL B1
        go_wp2_with fail
        go_ret2
        exact ⟨rfl, B2.out⟩
end Go.Proofs.Ytaeomiedmjedgaa
