/- The flash: Clone. -/
import Derived.Test.YtaeomiedmjedgaaFlashI
namespace Go.Proofs.Ytaeomiedmjedgaa
set_option linter.unusedVariables false
open Go Go.RowKit

theorem clone_mid {w W1 : World} {P : Nat} {t : TypeId} {x0 x1 x2 x3 x4 x5 x6 : Value} (hz : W1.heap.size = P + 1) (hG : W1.heap[P]? = some (.cells #[x0, x1, x2, x3, x4, x5, x6] t (0, 0))) (hB : Below P w W1) (A B : Obj) (v u : Value) :
    ∃ W2, W2 = ((((W1.setCell ⟨P, 0, none⟩ v).setCell ⟨P, 1, none⟩ u).alloc A).alloc B).drew ∧ W2.heap[P]? = some (.cells #[v, u, x2, x3, x4, x5, x6] t (0, 0)) ∧ W2.heap[P + 1]? = some A ∧ W2.heap[P + 1 + 1]? = some B ∧ Below P w W2 ∧ W2.heap.size = P + 3 := by
  have z : ((W1.setCell ⟨P, 0, none⟩ v).setCell ⟨P, 1, none⟩ u).heap.size = P + 1 := by simp [hz]
  refine ⟨_, rfl, ?_, ?_, ?_, ?_, ?_⟩
  · show ((((W1.setCell ⟨P, 0, none⟩ v).setCell ⟨P, 1, none⟩ u).alloc A).alloc B).heap[P]? = _
    rw [heap_alloc_old _ _ (by simp [hz]; omega), heap_alloc_old _ _ (by rw [z]; omega), heap_setCell_same _ _ _ _ _ _ (heap_setCell_same _ _ _ _ _ _ hG)]
    rfl
  · show ((((W1.setCell ⟨P, 0, none⟩ v).setCell ⟨P, 1, none⟩ u).alloc A).alloc B).heap[P + 1]? = _
    rw [← z]; exact row_old _ _ _
  · show ((((W1.setCell ⟨P, 0, none⟩ v).setCell ⟨P, 1, none⟩ u).alloc A).alloc B).heap[P + 1 + 1]? = _
    rw [← z]; exact row_new _ _ _
  · exact ((((hB.setCell (p := ⟨P, 0, none⟩) (Nat.le_refl P) v).setCell (p := ⟨P, 1, none⟩) (Nat.le_refl P) u).alloc (by rw [z]; omega) A).alloc (by simp [hz]; omega) B).drew
  · show ((((W1.setCell ⟨P, 0, none⟩ v).setCell ⟨P, 1, none⟩ u).alloc A).alloc B).heap.size = _
    simp [hz]

/-- A row is copied whole into a new one. -/
theorem copy_whole {W : World} {g b n cap : Nat} {e te : TypeId} {dT ty : TypeId} {cur : Array Value} {cs : List Value} (hn : cs.length = n) (hu : Try.prog.underlying dT = some (.slice e)) (hs : (Try.prog.info? e).map (·.size) = some 1)
    (hg : W.heap[g]? = some (.cells cur te (0, 0))) (hc : cur.size = n) (hsrc : ∀ j v, cs[j]? = some v → W.cell? ⟨b, j, none⟩ = some v) (h1 : ∀ v ∈ cs, v.oneCell' = true) :
    ∃ W', (Builtin.copy_ #[dT, dT] ty #[.slice (some ⟨g, 0, none⟩) n n, .slice (some ⟨b, 0, none⟩) n cap]).run Try.prog W = .ok (.int .i64 n) W' ∧ W'.heap[g]? = some (.cells cs.toArray te (0, 0)) ∧ Upd [g] W W' ∧ W'.heap.size = W.heap.size := by
  have h := run_copy_row (P := Try.prog) W dT dT ty e g 0 n n ⟨b, 0, none⟩ n cap cur te cs hu hs hg (by simp [hn]) (by
    intro j v hj
    have e : (⟨b, 0, none⟩ : Addr).add j = ⟨b, j, none⟩ := by unfold Addr.add; split <;> simp_all
    rw [e]; exact hsrc j v hj) (by omega) h1
  subst hn
  refine ⟨_, h, ?_, ?_, ?_⟩
  · rw [setRow_heap _ _ _ _ _ _ hg]
    congr 2
    rw [List.take_zero, List.nil_append, List.drop_eq_nil_of_le (by simp; omega), List.append_nil]
  · exact ⟨rfl, rfl, rfl, by simp [World.setRow], fun k hk hn => setRow_other W g k _ (by simpa using hn)⟩
  · simp [World.setRow]

set_option maxHeartbeats 1000000 in
/-- Clone: another flash in the same state; the one there was stays. -/
theorem clone_any (p bb cb : Nat) (s : FS) (w : World) (h : Fl 75 w p bb cb s) (hok : s.Ok) :
    Calls Try.prog 33 #[.pointer (some ⟨p, 0, none⟩)] w fun e w' => ∃ p' bb' cb', e = .returned (.pointer (some ⟨p', 0, none⟩)) ∧ Fl 75 w' p' bb' cb' s ∧ w.heap.size ≤ p' ∧ w.heap.size ≤ bb' ∧ w.heap.size ≤ cb' ∧ Below w.heap.size w w' := by
  have HF := Box.mk h
  have hlt := h.lt
  have hlen := hok.len; have hfew := hok.few
  have hmk1 := fun w => make_bytes s.b.length s.b.length rfl (by omega) w
  have hmk2 := fun w => make_ints s.n.length s.n.length rfl (by omega) w
  obtain ⟨bcap, ccap, hb, hc, c0, c1, c2, c3, c4, c5, c6⟩ := h.cells
  have f0 := h.free 0
  have C0 := Box.mk c0; have C1 := Box.mk c1
  clear h hlen hfew
  go_enter Try.func33, Try.ntmps33
  go_wp2_with fail
  obtain ⟨W1, hW1⟩ : ∃ W1, W1 = w.alloc (.cells #[.slice (some ⟨bb, 0, none⟩) s.b.length bcap, .slice (some ⟨cb, 0, none⟩) s.n.length ccap, .int .i64 s.steps, .int .i64 s.armed, .int .i64 s.keep, .int .u8 (s.mask.toNat : Int), .bool s.dead] 75) := ⟨_, rfl⟩
  rw [← hW1]
  have G1 : Box (W1.heap[w.heap.size]? = some (.cells #[.slice (some ⟨bb, 0, none⟩) s.b.length bcap, .slice (some ⟨cb, 0, none⟩) s.n.length ccap, .int .i64 s.steps, .int .i64 s.armed, .int .i64 s.keep, .int .u8 (s.mask.toNat : Int), .bool s.dead] 75 (0, 0))) := ⟨hW1 ▸ heap_alloc_new _ _⟩
  have B1 : Box (Below w.heap.size w W1) := ⟨hW1 ▸ (Below.refl _ _).alloc (Nat.le_refl _) _⟩
  have hz : W1.heap.size = w.heap.size + 1 := by rw [hW1]; simp
  clear hW1
  have d0 := (B1.out.cell (p := ⟨p, 0, none⟩) hlt.1).trans c0
  have d1 := (B1.out.cell (p := ⟨p, 1, none⟩) hlt.1).trans c1
  have n0 : W1.cell? ⟨w.heap.size, 0, none⟩ = some (.slice (some ⟨bb, 0, none⟩) s.b.length bcap) := by rw [cell_of_row _ _ _ _ _ _ G1.out]; rfl
  have n1 : W1.cell? ⟨w.heap.size, 1, none⟩ = some (.slice (some ⟨cb, 0, none⟩) s.n.length ccap) := by rw [cell_of_row _ _ _ _ _ _ G1.out]; rfl
  have z0 : W1.frozen? ⟨w.heap.size, 0, none⟩ = false := frozen_of_row _ _ _ _ _ G1.out
  have z1 : W1.frozen? ⟨w.heap.size, 1, none⟩ = false := frozen_of_row _ _ _ _ _ G1.out
  have hp1 : p < W1.heap.size := by omega
  have hp2 : w.heap.size < W1.heap.size := by omega
  have hne : p ≠ w.heap.size := by omega
  clear c0 c1 c2 c3 c4 c5 c6 f0
  have BY := Box.mk (fun j u hu => (HF.out.byte j u hu).1)
  have CN := Box.mk (fun j u hu => (HF.out.count j u hu).1)
  have HL := Box.mk hlt
  go_region
  all_goals
    clear hmk1 hmk2 z0 z1 n0 n1 d0 d1 hlt
    first
    | (obtain ⟨W2, hW2, hP, hgb, hgc, hB2, hz2⟩ := clone_mid hz G1.out B1.out (.cells (Array.replicate s.b.length (.int .u8 0)) 5) (.cells (Array.replicate s.n.length (.int .i64 0)) 3) (.slice (some ⟨w.heap.size + 1, 0, none⟩) s.b.length s.b.length) (.slice (some ⟨w.heap.size + 1 + 1, 0, none⟩) s.n.length s.n.length)
       rw [← hW2])
    | (obtain ⟨W2, hW2, hP, hgc, hgb, hB2, hz2⟩ := clone_mid hz G1.out B1.out (.cells (Array.replicate s.n.length (.int .i64 0)) 3) (.cells (Array.replicate s.b.length (.int .u8 0)) 5) (.slice (some ⟨w.heap.size + 1 + 1, 0, none⟩) s.b.length s.b.length) (.slice (some ⟨w.heap.size + 1, 0, none⟩) s.n.length s.n.length)
       rw [← hW2])
    clear hW2
    have m0 := cell_of_row _ _ 0 _ _ _ hP
    have m1 := cell_of_row _ _ 1 _ _ _ hP
    simp at m0 m1
    have d0 := (hB2.cell (p := ⟨p, 0, none⟩) HL.out.1).trans C0.out
    obtain ⟨W3, hcp, h3, hu3, hz3⟩ := copy_whole (W := W2.drew) (b := bb) (cap := bcap) (dT := 52) (ty := 3) (e := 5) (cs := s.b.map bval) (n := s.b.length) (by simp) Try.underlying52 (by kernel_rfl) hgb (by simp) (by
      intro j v hj
      rw [List.getElem?_map] at hj
      cases hl : s.b[j]? with
      | none => rw [hl] at hj; cases hj
      | some u =>
        rw [hl] at hj; cases hj
        exact (hB2.cell (p := ⟨bb, j, none⟩) HL.out.2.1).trans (BY.out j u hl)) (by
      intro v hv
      obtain ⟨u, _, rfl⟩ := List.mem_map.1 hv
      rfl)
    go_wp2_with fail
    go_region
    have hz3' : W3.heap.size = w.heap.size + 3 := hz3.trans hz2
    have hlw := HL.out
    have hgc3 := (hu3.block _ (by show _ < W2.heap.size; omega) (by simp <;> omega)).trans hgc
    have hP3 := (hu3.block _ (by show _ < W2.heap.size; omega) (by simp <;> omega)).trans hP
    have hb3 : Below w.heap.size w W3 := Upd.below hB2 ((Upd.refl _ W2).drew.trans hu3) (by intro i hi; simp at hi; omega) hB2.size
    have k1 := cell_of_row _ _ 1 _ _ _ hP3
    simp at k1
    have d1 := (hb3.cell (p := ⟨p, 1, none⟩) hlw.1).trans C1.out
    obtain ⟨W4, hcp4, h4, hu4, hz4⟩ := copy_whole (W := W3.drew) (b := cb) (cap := ccap) (dT := 62) (ty := 3) (e := 3) (cs := s.n.map nval) (n := s.n.length) (by simp) Try.underlying62 (by kernel_rfl) hgc3 (by simp) (by
      intro j v hj
      rw [List.getElem?_map] at hj
      cases hl : s.n[j]? with
      | none => rw [hl] at hj; cases hj
      | some u =>
        rw [hl] at hj; cases hj
        exact (hb3.cell (p := ⟨cb, j, none⟩) HL.out.2.2).trans (CN.out j u hl)) (by
      intro v hv
      obtain ⟨u, _, rfl⟩ := List.mem_map.1 hv
      rfl)
    clear hlw m0 m1 d0 hcp
    go_wp2_with fail
    go_region
    go_wp2
    go_ret
    have hP4 := (hu4.block _ (by show _ < W3.heap.size; omega) (by simp <;> omega)).trans hP3
    have hgb4 := (hu4.block _ (by show _ < W3.heap.size; omega) (by simp <;> omega)).trans h3
    refine ⟨_, _, _, rfl, ⟨⟨_, _, Nat.le_refl _, Nat.le_refl _, hP4⟩, ⟨[], (0, 0), by rw [hgb4]; simp, Or.inl rfl⟩, ⟨[], by rw [h4]; simp⟩, by omega, by omega, by omega⟩, by omega, by omega, by omega, ?_⟩
    exact Upd.below hb3 ((Upd.refl _ W3).drew.trans hu4) (by intro i hi; simp at hi; omega) hb3.size
end Go.Proofs.Ytaeomiedmjedgaa
