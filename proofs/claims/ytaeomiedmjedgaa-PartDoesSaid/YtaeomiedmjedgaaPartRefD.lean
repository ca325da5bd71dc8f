/- A part and the document's, in one state: quiet counts; what stands between the calls of a script. -/
import Derived.Test.YtaeomiedmjedgaaPartRefC
import Derived.Test.YtaeomiedmjedgaaPartI
import Derived.Deep.QuietTactic
namespace Go.Proofs.Ytaeomiedmjedgaa
set_option linter.unusedVariables false
open Go Go.RowKit

theorem quiet_calls2 {P : Program} {f : FuncId} {args : Array Value} {w : World} {n : Nat} {v : Value}
    (h : Calls P f args (w.drewN n) fun e w' => e = .returned v ∧ ∃ m, w' = (w.drewN n).drewN m) : Calls P f args (w.drewN n) fun e w'' => e = .returned v ∧ ∃ m, w'' = w.drewN m :=
  h.mono fun _ _ ⟨he, m, hm⟩ => ⟨he, n + m, by rw [hm, World.drewN_drewN]⟩
set_option maxHeartbeats 1000000 in
theorem pcount_q (q p bb cb : Nat) (F B : Int) (s : FS) (k : Int) (w : World) (hf : Fl 75 w p bb cb s) (hok : s.Ok) (h : Pa w q p F B) (hi : In s.n.length F B) :
    Calls Try.prog 35 #[.pointer (some ⟨q, 0, none⟩), .int .i64 k] w fun e w' => e = .returned (.int .i64 (s.pcount F B k)) ∧ ∃ m, w' = w.drewN m := by
  obtain ⟨c0, c1, c2⟩ := h.cells
  have HF := Box.mk hf
  by_cases g0 : k < 0
  · have g0' : decide (k < 0) = true := by simpa using g0
    have E : Box (s.pcount F B k = 0) := ⟨by unfold FS.pcount; rw [if_neg (by omega)]⟩
    clear c0 c1 hi h hok hf g0
    go_enter Try.func35, Try.ntmps35
    go_wp2
    go_ret
    exact ⟨by rw [E.out]; rfl, 0, rfl⟩
  · have g0' : decide (k < 0) = false := by simpa using g0
    by_cases g1 : k < B
    · have g1' : decide (B ≤ k) = false := by simpa using g1
      have hw : IntKind.i64.wrap (F + k) = F + k := by rw [IntKind.wrap_i64]; have := hi.lo; have := hi.hi; have := hi.few; omega
      have E : Box (s.pcount F B k = s.count (F + k)) := ⟨by unfold FS.pcount; rw [if_pos (by omega)]⟩
      have ER := Box.mk (fun n => count_any p bb cb s (F + k) (w.drewN n) (hf.upd ((Upd.refl [] w).drewN n) (by simp) (by simp) (by simp)) hok)
      rw [← E.out] at ER
      generalize s.pcount F B k = V at ER ⊢
      clear E hi h hok hf g0 g1
      go_enter Try.func35, Try.ntmps35
      go_wp2
      go_quiet ((go_at_call 54; exact quiet_calls (ER.out _)))
      go_wp2
      go_ret
      exact ⟨rfl, _, rfl⟩
    · have g1' : decide (B ≤ k) = true := by simpa using g1
      have E : Box (s.pcount F B k = 0) := ⟨by unfold FS.pcount; rw [if_neg (by omega)]⟩
      clear c0 c1 hi h hok hf g0 g1
      go_enter Try.func35, Try.ntmps35
      go_wp2
      go_ret
      exact ⟨by rw [E.out]; rfl, 0, rfl⟩
set_option maxHeartbeats 1000000 in
theorem rpcount_q (q p bb cb : Nat) (F B : Int) (s : FS) (k : Int) (w : World) (hf : Fl 64 w p bb cb s) (hok : s.Ok) (h : RPa w q p F B) (hi : In s.n.length F B) :
    Calls Try.prog 36 #[.pointer (some ⟨q, 0, none⟩), .int .i64 k] w fun e w' => e = .returned (.int .i64 (s.pcount F B k)) ∧ ∃ m, w' = w.drewN m := by
  obtain ⟨c0, c1, c2⟩ := h.cells
  by_cases g0 : k < 0
  · have g0' : decide (k < 0) = true := by simpa using g0
    have E : Box (s.pcount F B k = 0) := ⟨by unfold FS.pcount; rw [if_neg (by omega)]⟩
    clear c0 c1 hi h hok hf g0
    go_enter Try.func36, Try.ntmps36
    go_wp2
    go_ret
    exact ⟨by rw [E.out]; rfl, 0, rfl⟩
  · have g0' : decide (k < 0) = false := by simpa using g0
    by_cases g1 : k < B
    · have g1' : decide (B ≤ k) = false := by simpa using g1
      have h1 := hi.lo; have h2 := hi.hi; have h3 := hi.few
      obtain ⟨j, hj⟩ : ∃ j : Nat, F + k = (j : Int) := ⟨(F + k).toNat, by omega⟩
      have hw : IntKind.i64.wrap (F + k) = (j : Int) := by rw [IntKind.wrap_i64]; omega
      have hjl : j < s.n.length := by omega
      have hjI : (j : Int) < (s.n.length : Int) := by omega
      obtain ⟨u, hu⟩ : ∃ u, s.n[j]? = some u := ⟨_, List.getElem?_eq_getElem hjl⟩
      have E : Box (s.pcount F B k = u) := ⟨by unfold FS.pcount FS.count; rw [if_pos (by omega), if_pos (by omega), hj, Int.toNat_natCast, List.getD_eq_getElem?_getD, hu]; rfl⟩
      obtain ⟨bcap, ccap, hb, hc, d0, d1, d2, d3, d4, d5, d6⟩ := hf.cells
      have cu := (hf.count j u hu).1
      clear hu hj hi hok hf g0 g1 h1 h2 h3 hjl d0 d2 d3 d4 d5 d6 hb hc h
      go_enter Try.func36, Try.ntmps36
      go_wp2
      go_quiet (fail)
      go_wp2
      go_ret
      exact ⟨by rw [E.out]; rfl, _, rfl⟩
    · have g1' : decide (B ≤ k) = true := by simpa using g1
      have E : Box (s.pcount F B k = 0) := ⟨by unfold FS.pcount; rw [if_neg (by omega)]⟩
      clear c0 c1 hi h hok hf g0 g1
      go_enter Try.func36, Try.ntmps36
      go_wp2
      go_ret
      exact ⟨by rw [E.out]; rfl, 0, rfl⟩

/-- Blocks that are apart: a part, its flash; the document's. -/
structure Apar (B0 q p bb cb q' p' bb' cb' : Nat) : Prop where
  l1 : B0 < q ∧ B0 < p ∧ B0 < bb ∧ B0 < cb
  l2 : B0 < q' ∧ B0 < p' ∧ B0 < bb' ∧ B0 < cb'
  n1 : q ≠ p ∧ q ≠ bb ∧ q ≠ cb
  n2 : q' ≠ p' ∧ q' ≠ bb' ∧ q' ≠ cb'
  a : q ≠ q' ∧ q ≠ p' ∧ q ≠ bb' ∧ q ≠ cb'
  b : p ≠ q' ∧ p ≠ p' ∧ p ≠ bb' ∧ p ≠ cb'
  c : bb ≠ q' ∧ bb ≠ p' ∧ bb ≠ bb' ∧ bb ≠ cb'
  d : cb ≠ q' ∧ cb ≠ p' ∧ cb ≠ bb' ∧ cb ≠ cb'
/-- A part over a flash, and the document's. -/
structure PdS (wr : World) (F B : Int) (q p bb cb q' p' bb' cb' : Nat) (s s' : FS) : Prop where
  f : Fl 75 wr p bb cb s
  pa : Pa wr q p F B
  m : Fl 64 wr p' bb' cb' s'
  ra : RPa wr q' p' F B
theorem nm3 {x a b c : Nat} (h1 : x ≠ a) (h2 : x ≠ b) (h3 : x ≠ c) : x ∉ [a, b, c] := by simp [h1, h2, h3]
theorem Apar.s1 {B0 q p bb cb q' p' bb' cb' : Nat} (n : Apar B0 q p bb cb q' p' bb' cb') : q ∉ [p, bb, cb] ∧ q' ∉ [p, bb, cb] ∧ p' ∉ [p, bb, cb] ∧ bb' ∉ [p, bb, cb] ∧ cb' ∉ [p, bb, cb] :=
  ⟨nm3 n.n1.1 n.n1.2.1 n.n1.2.2, nm3 n.b.1.symm n.c.1.symm n.d.1.symm, nm3 n.b.2.1.symm n.c.2.1.symm n.d.2.1.symm, nm3 n.b.2.2.1.symm n.c.2.2.1.symm n.d.2.2.1.symm, nm3 n.b.2.2.2.symm n.c.2.2.2.symm n.d.2.2.2.symm⟩
theorem Apar.s2 {B0 q p bb cb q' p' bb' cb' : Nat} (n : Apar B0 q p bb cb q' p' bb' cb') : q' ∉ [p', bb', cb'] ∧ q ∉ [p', bb', cb'] ∧ p ∉ [p', bb', cb'] ∧ bb ∉ [p', bb', cb'] ∧ cb ∉ [p', bb', cb'] :=
  ⟨nm3 n.n2.1 n.n2.2.1 n.n2.2.2, nm3 n.a.2.1 n.a.2.2.1 n.a.2.2.2, nm3 n.b.2.1 n.b.2.2.1 n.b.2.2.2, nm3 n.c.2.1 n.c.2.2.1 n.c.2.2.2, nm3 n.d.2.1 n.d.2.2.1 n.d.2.2.2⟩
theorem Apar.g1 {B0 q p bb cb q' p' bb' cb' : Nat} (n : Apar B0 q p bb cb q' p' bb' cb') : ∀ i, i ∈ [p, bb, cb] → B0 < i := by
  have := n.l1; intro i hi; simp only [List.mem_cons, List.not_mem_nil, or_false] at hi; rcases hi with rfl | rfl | rfl <;> omega
theorem Apar.g2 {B0 q p bb cb q' p' bb' cb' : Nat} (n : Apar B0 q p bb cb q' p' bb' cb') : ∀ i, i ∈ [p', bb', cb'] → B0 < i := by
  have := n.l2; intro i hi; simp only [List.mem_cons, List.not_mem_nil, or_false] at hi; rcases hi with rfl | rfl | rfl <;> omega
theorem PdS.one {wr w1 : World} {F B : Int} {B0 q p bb cb q' p' bb' cb' : Nat} {s s' s1 : FS} (h : PdS wr F B q p bb cb q' p' bb' cb' s s') (n : Apar B0 q p bb cb q' p' bb' cb') (hf : Fl 75 w1 p bb cb s1) (hu : Upd [p, bb, cb] wr w1) :
    PdS w1 F B q p bb cb q' p' bb' cb' s1 s' := by
  obtain ⟨n1, n2, n3, n4, n5⟩ := n.s1
  exact ⟨hf, h.pa.upd hu n1, h.m.upd hu n3 n4 n5, h.ra.upd hu n2⟩
theorem PdS.two {wr w1 : World} {F B : Int} {B0 q p bb cb q' p' bb' cb' : Nat} {s s' s1 : FS} (h : PdS wr F B q p bb cb q' p' bb' cb' s s') (n : Apar B0 q p bb cb q' p' bb' cb') (hf : Fl 64 w1 p' bb' cb' s1) (hu : Upd [p', bb', cb'] wr w1) :
    PdS w1 F B q p bb cb q' p' bb' cb' s s1 := by
  obtain ⟨n1, n2, n3, n4, n5⟩ := n.s2
  exact ⟨h.f.upd hu n3 n4 n5, h.pa.upd hu n2, hf, h.ra.upd hu n1⟩
theorem PdS.same {wr w1 : World} {F B : Int} {q p bb cb q' p' bb' cb' : Nat} {s s' : FS} (h : PdS wr F B q p bb cb q' p' bb' cb' s s') (hu : Upd [] wr w1) :
    PdS w1 F B q p bb cb q' p' bb' cb' s s' :=
  ⟨h.f.upd hu (by simp) (by simp) (by simp), h.pa.upd hu (by simp), h.m.upd hu (by simp) (by simp) (by simp), h.ra.upd hu (by simp)⟩
theorem PdS.lt {wr : World} {F B : Int} {q p bb cb q' p' bb' cb' : Nat} {s s' : FS} (h : PdS wr F B q p bb cb q' p' bb' cb' s s') : (q < wr.heap.size ∧ p < wr.heap.size ∧ bb < wr.heap.size ∧ cb < wr.heap.size) ∧ (q' < wr.heap.size ∧ p' < wr.heap.size ∧ bb' < wr.heap.size ∧ cb' < wr.heap.size) :=
  ⟨⟨h.pa.lt, h.f.lt⟩, ⟨h.ra.lt, h.m.lt⟩⟩
end Go.Proofs.Ytaeomiedmjedgaa
