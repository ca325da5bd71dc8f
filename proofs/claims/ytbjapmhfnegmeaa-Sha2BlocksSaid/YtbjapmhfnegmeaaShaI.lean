/- SHA-2: the state of a sum that goes on; New, Write, Sum: words of 32 bits. -/
import Derived.Test.YtbjapmhfnegmeaaShaG
import Derived.Test.YtbjapmhfnegmeaaOwn
import Derived.Test.YtbjapmhfnegmeaaMul
namespace Go.Proofs.Ytbjapmhfnegmeaa
set_option linter.unusedVariables false
open Go Go.RowKit Sha

theorem mul8_any (x : Nat) (hx : x ≤ 1000000) (w : World) : Calls Try.prog 20 #[.int .u64 x, .int .u64 8] w fun e w' => e = .returned (.tuple #[.int .u64 0, .int .u64 ((8 * x : Nat) : Int)]) ∧ w = w' := by
  have h := mul64w_any x 8 (by omega) (by omega) w
  rw [show ((x * 8 / 18446744073709551616 : Nat) : Int) = 0 from by omega, show x * 8 % 18446744073709551616 = 8 * x from by omega] at h
  exact h.mono fun e w' ⟨a, b⟩ => ⟨a, b.symm⟩

/-- What the sum's row holds. -/
def rowS (st : St) (j m : Nat) : List UInt8 := st.r ++ (128 : UInt8) :: (List.replicate j 0 ++ (bytesOf (8 * st.n) 8).take m)
theorem rowS_step (st : St) (j m : Nat) (hm : m < 8) : rowS st j (m + 1) = rowS st j m ++ [UInt8.ofNat (8 * st.n / 256 ^ (8 - 1 - m))] := by
  unfold rowS; rw [bytesOf_step _ _ _ hm]; simp
theorem rowS_zero (st : St) (j : Nat) : rowS st (j + 1) 0 = rowS st j 0 ++ [0] := by
  unfold rowS; rw [List.replicate_succ']; simp
theorem bytes_split (x : Nat) : ∀ a b, x < 256 ^ b → bytesOf x (a + b) = List.replicate a 0 ++ bytesOf x b
  | 0, b, _ => by simp
  | a + 1, b, h => by
    rw [show a + 1 + b = a + b + 1 from by omega, bytesOf, bytes_split x a b h, List.replicate_succ, List.cons_append]
    congr 1
    rw [Nat.div_eq_of_lt (Nat.lt_of_lt_of_le h (Nat.pow_le_pow_right (by omega) (by omega)))]
    rfl
theorem bytes16 (x : Nat) (h : x < 256 ^ 8) : bytesOf x 16 = List.replicate 8 0 ++ bytesOf x 8 := bytes_split x 8 8 h

/-- The hash at p goes on from the state st. -/
def St32 (w : World) (p : Nat) (st : St) : Prop := ∃ (O : V8) (r : ByteArray), Hs32 w p st.v O r st.n ∧ r.data.toList = st.r ∧ st.v.Ok 32 ∧ st.r.length = st.n % 64
theorem St32.lt {w : World} {p : Nat} {st : St} (h : St32 w p st) : p < w.heap.size := by
  obtain ⟨_, _, h, _⟩ := h
  exact (Array.getElem?_eq_some_iff.1 h).1
theorem St32.keep {w w' : World} {p : Nat} {st : St} (h : St32 w p st) (hk : w'.heap[p]? = w.heap[p]?) : St32 w' p st := by
  obtain ⟨O, r, h, k⟩ := h
  exact ⟨O, r, hk.trans h, k⟩
theorem k256_ok : k256.h.Ok 32 := ⟨by decide, by decide, by decide, by decide, by decide, by decide, by decide, by decide⟩
theorem new32_any (w : World) : Calls Try.prog 10 #[.int .i64 0] w fun e w' => ∃ p, e = .returned (.tuple #[.pointer (some ⟨p, 0, none⟩), .int .i64 0]) ∧ w.heap.size ≤ p ∧ St32 w' p k256.new ∧ Below w.heap.size w w' :=
  (new_loop 0 w (by simp)).mono fun _ _ ⟨p, he, hp, hg, hb⟩ => ⟨p, he, hp, ⟨_, _, hg, rfl, k256_ok, rfl⟩, hb⟩
theorem clone32_any (p : Nat) (st : St) (w : World) (h : St32 w p st) : Calls Try.prog 11 #[.pointer (some ⟨p, 0, none⟩)] w fun e w' => e = .returned (.pointer (some ⟨w.heap.size, 0, none⟩)) ∧ St32 w' w.heap.size st ∧ Below w.heap.size w w' := by
  obtain ⟨O, r, hg, h⟩ := h
  exact (clone_any p _ _ _ r st.n w hg).mono fun _ _ ⟨he, hw⟩ => ⟨he, by subst hw; exact ⟨O, r, heap_alloc_new _ _, h⟩, by subst hw; exact (Below.refl _ _).alloc (Nat.le_refl _) _⟩
set_option maxHeartbeats 1000000 in
theorem write32_any (p : Nat) (st : St) (s : ByteArray) (w : World) (h : St32 w p st) (hs : s.size ≤ 500000) (hn : st.n ≤ 500000) :
    Calls Try.prog 12 #[.pointer (some ⟨p, 0, none⟩), .string s] w fun e w' => e = .returned (.tuple #[]) ∧ St32 w' p (k256.write st s.data.toList) ∧ Upd [p] w w' := by
  obtain ⟨O, r, hg, hr, hok, hl⟩ := h
  have k18 := cell_of_row _ _ 18 _ _ _ hg
  have k17 := cell_of_row _ _ 17 _ _ _ hg
  have fz := fun j => frozen_of_row _ _ j _ _ hg
  have f17 := fz 17; have f18 := fz 18
  simp [hc32, hcells] at k18 k17
  have hg1 : Hs32 (w.setCell ⟨p, 18, none⟩ (.int .i64 ((st.n : Int) + (s.size : Int)))) p st.v O r ((st.n : Int) + (s.size : Int)) := by
    unfold Hs32; rw [heap_setCell_same _ _ _ _ _ _ hg]; rfl
  have hrs : (r ++ s).size ≤ 1000000 := by
    rw [ByteArray.size_append, ← size_list r, hr, hl]; omega
  have HCAT : Box (¬ 9223372036854775807 < r.size + s.size) := ⟨by rw [ByteArray.size_append] at hrs; omega⟩
  have hra : (r ++ s).data.toList = st.r ++ s.data.toList := by rw [← hr]; simp
  have hbl := blks_rest (B := 64) (by omega) k256.step st.v (st.r ++ s.data.toList)
  have hb := blocks32_any p st.v O r ((st.n : Int) + (s.size : Int)) (r ++ s) _ hg1 hok hrs
  rw [hra] at hb
  have hw : ∀ q, blks 64 k256.step st.v (st.r ++ s.data.toList) = q → k256.write st s.data.toList = ⟨q.1, q.2, st.n + s.size⟩ := by
    intro q hq; subst hq; unfold Kd.write; rw [size_list]; rfl
  have hw := hw _ rfl
  rw [hw]
  generalize blks 64 k256.step st.v (st.r ++ s.data.toList) = q at hb hbl ⊢
  have HB := Box.mk hb; have HBL := Box.mk hbl; have HL := Box.mk hl; have HG := Box.mk hg
  clear hb hbl hl hg hw hra hrs hg1 hr hok fz
  have b1 : (0 : Int) ≤ (st.n : Int) + (s.size : Int) := by omega
  have hcat : ¬ 9223372036854775807 < r.size + s.size := HCAT.out
  go_enter Try.func12, Try.ntmps12
  go_wp2_with ((with_reducible refine HB.out.mono ?_); rintro e w1 ⟨r1, rfl, hr1, hs1, hok1, hu1⟩; have HR1 := Box.mk hr1; have HS1 := Box.mk hs1; have HOK1 := Box.mk hok1; have HU1 := Box.mk hu1; have c17 := cell_of_row _ _ 17 _ _ _ hs1; have g17 := frozen_of_row _ _ 17 _ _ hs1; simp [hc32, hcells] at c17; clear hr1 hs1 hok1 hu1)
  go_end0
  refine ⟨rfl, ⟨O, r1, ?_, HR1.out, HOK1.out, ?_⟩, ?_⟩
  · have h1 : (w1.setCell ⟨p, 17, none⟩ (.string r1)).heap[p]? = some (.cells (hc32 0 q.1 O r1 ((st.n : Int) + (s.size : Int))) 52 (0, 0)) := by
      rw [heap_setCell_same _ _ _ _ _ _ HS1.out]; rfl
    exact h1
  · show q.2.length = (st.n + s.size) % 64
    rw [HBL.out, List.length_append, HL.out, size_list]; omega
  · exact (((Upd.refl [p] w).setCell (by simp) _).trans HU1.out).setCell (by simp) _

end Go.Proofs.Ytbjapmhfnegmeaa
