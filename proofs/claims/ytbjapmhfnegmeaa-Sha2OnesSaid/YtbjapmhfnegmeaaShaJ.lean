/- SHA-2: the state of a sum that goes on; New, Write, Sum: words of 64 bits. -/
import Derived.Test.YtbjapmhfnegmeaaShaH
import Derived.Test.YtbjapmhfnegmeaaShaI
import Derived.Test.YtbjapmhfnegmeaaOwn
import Derived.Test.YtbjapmhfnegmeaaMul
namespace Go.Proofs.Ytbjapmhfnegmeaa
set_option linter.unusedVariables false
open Go Go.RowKit Sha

/-- The hash at p goes on from the state st. -/
def St64 (w : World) (p : Nat) (st : St) : Prop := ∃ (O : V8) (r : ByteArray), Hs64 w p st.v O r st.n ∧ r.data.toList = st.r ∧ st.v.Ok 64 ∧ st.r.length = st.n % 128
theorem St64.lt {w : World} {p : Nat} {st : St} (h : St64 w p st) : p < w.heap.size := by
  obtain ⟨_, _, h, _⟩ := h
  exact (Array.getElem?_eq_some_iff.1 h).1
theorem St64.keep {w w' : World} {p : Nat} {st : St} (h : St64 w p st) (hk : w'.heap[p]? = w.heap[p]?) : St64 w' p st := by
  obtain ⟨O, r, h, k⟩ := h
  exact ⟨O, r, hk.trans h, k⟩
theorem k512_ok : k512.h.Ok 64 := ⟨by decide, by decide, by decide, by decide, by decide, by decide, by decide, by decide⟩
theorem new64_any (w : World) : Calls Try.prog 10 #[.int .i64 1] w fun e w' => ∃ p, e = .returned (.tuple #[.pointer (some ⟨p, 0, none⟩), .int .i64 0]) ∧ w.heap.size ≤ p ∧ St64 w' p k512.new ∧ Below w.heap.size w w' :=
  (new_loop 1 w (by simp)).mono fun _ _ ⟨p, he, hp, hg, hb⟩ => ⟨p, he, hp, ⟨_, _, hg, rfl, k512_ok, rfl⟩, hb⟩
theorem clone64_any (p : Nat) (st : St) (w : World) (h : St64 w p st) : Calls Try.prog 11 #[.pointer (some ⟨p, 0, none⟩)] w fun e w' => e = .returned (.pointer (some ⟨w.heap.size, 0, none⟩)) ∧ St64 w' w.heap.size st ∧ Below w.heap.size w w' := by
  obtain ⟨O, r, hg, h⟩ := h
  exact (clone_any p _ _ _ r st.n w hg).mono fun _ _ ⟨he, hw⟩ => ⟨he, by subst hw; exact ⟨O, r, heap_alloc_new _ _, h⟩, by subst hw; exact (Below.refl _ _).alloc (Nat.le_refl _) _⟩
set_option maxHeartbeats 1000000 in
theorem write64_any (p : Nat) (st : St) (s : ByteArray) (w : World) (h : St64 w p st) (hs : s.size ≤ 500000) (hn : st.n ≤ 500000) :
    Calls Try.prog 12 #[.pointer (some ⟨p, 0, none⟩), .string s] w fun e w' => e = .returned (.tuple #[]) ∧ St64 w' p (k512.write st s.data.toList) ∧ Upd [p] w w' := by
  obtain ⟨O, r, hg, hr, hok, hl⟩ := h
  have k18 := cell_of_row _ _ 18 _ _ _ hg
  have k17 := cell_of_row _ _ 17 _ _ _ hg
  have fz := fun j => frozen_of_row _ _ j _ _ hg
  have f17 := fz 17; have f18 := fz 18
  simp [hc64, hcells] at k18 k17
  have hg1 : Hs64 (w.setCell ⟨p, 18, none⟩ (.int .i64 ((st.n : Int) + (s.size : Int)))) p st.v O r ((st.n : Int) + (s.size : Int)) := by
    unfold Hs64; rw [heap_setCell_same _ _ _ _ _ _ hg]; rfl
  have hrs : (r ++ s).size ≤ 1000000 := by
    rw [ByteArray.size_append, ← size_list r, hr, hl]; omega
  have HCAT : Box (¬ 9223372036854775807 < r.size + s.size) := ⟨by rw [ByteArray.size_append] at hrs; omega⟩
  have hra : (r ++ s).data.toList = st.r ++ s.data.toList := by rw [← hr]; simp
  have hbl := blks_rest (B := 128) (by omega) k512.step st.v (st.r ++ s.data.toList)
  have hb := blocks64_any p st.v O r ((st.n : Int) + (s.size : Int)) (r ++ s) _ hg1 hok hrs
  rw [hra] at hb
  have hw : ∀ q, blks 128 k512.step st.v (st.r ++ s.data.toList) = q → k512.write st s.data.toList = ⟨q.1, q.2, st.n + s.size⟩ := by
    intro q hq; subst hq; unfold Kd.write; rw [size_list]; rfl
  have hw := hw _ rfl
  rw [hw]
  generalize blks 128 k512.step st.v (st.r ++ s.data.toList) = q at hb hbl ⊢
  have HB := Box.mk hb; have HBL := Box.mk hbl; have HL := Box.mk hl; have HG := Box.mk hg
  clear hb hbl hl hg hw hra hrs hg1 hr hok fz
  have b1 : (0 : Int) ≤ (st.n : Int) + (s.size : Int) := by omega
  have hcat : ¬ 9223372036854775807 < r.size + s.size := HCAT.out
  go_enter Try.func12, Try.ntmps12
  go_wp2_with ((with_reducible refine HB.out.mono ?_); rintro e w1 ⟨r1, rfl, hr1, hs1, hok1, hu1⟩; have HR1 := Box.mk hr1; have HS1 := Box.mk hs1; have HOK1 := Box.mk hok1; have HU1 := Box.mk hu1; have c17 := cell_of_row _ _ 17 _ _ _ hs1; have g17 := frozen_of_row _ _ 17 _ _ hs1; simp [hc64, hcells] at c17; clear hr1 hs1 hok1 hu1)
  go_end0
  refine ⟨rfl, ⟨O, r1, ?_, HR1.out, HOK1.out, ?_⟩, ?_⟩
  · have h1 : (w1.setCell ⟨p, 17, none⟩ (.string r1)).heap[p]? = some (.cells (hc64 1 q.1 O r1 ((st.n : Int) + (s.size : Int))) 52 (0, 0)) := by
      rw [heap_setCell_same _ _ _ _ _ _ HS1.out]; rfl
    exact h1
  · show q.2.length = (st.n + s.size) % 128
    rw [HBL.out, List.length_append, HL.out, size_list]; omega
  · exact (((Upd.refl [p] w).setCell (by simp) _).trans HU1.out).setCell (by simp) _

end Go.Proofs.Ytbjapmhfnegmeaa
