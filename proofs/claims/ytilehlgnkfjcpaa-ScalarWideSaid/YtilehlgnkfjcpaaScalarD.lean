/- The scalar package: the number of words modulo the order. -/
import Derived.Test.YtilehlgnkfjcpaaScalarC
import Derived.Deep.Cut
namespace Go.Proofs.Ytilehlgnkfjcpaa
open Go Go.RowKit

/-- A number of c words. -/
def InWords (N c : Nat) : Prop := N < 2 ^ (64 * c)
theorem InWords.sum {x y k : Nat} (hk : 1 ≤ k) (hx : InWords x k) (hy : InWords y k) : InWords (x + y) (2 * k) := by
  unfold InWords at *
  have h1 : 2 ^ (64 * k) * 2 ^ 1 ≤ 2 ^ (64 * k) * 2 ^ (64 * k) := Nat.mul_le_mul_left _ (Nat.pow_le_pow_right (by omega) (by omega))
  rw [show 64 * (2 * k) = 64 * k + 64 * k from by omega, Nat.pow_add]
  omega
theorem InWords.mul {x y k : Nat} (hx : InWords x k) (hy : InWords y k) : InWords (x * y) (2 * k) := by
  unfold InWords at *
  rw [show 64 * (2 * k) = 64 * k + 64 * k from by omega, Nat.pow_add]
  exact Nat.mul_lt_mul'' hx hy
theorem InWords.mono {x k m : Nat} (h : InWords x k) (hm : k ≤ m) : InWords x m :=
  Nat.lt_of_lt_of_le h (Nat.pow_le_pow_right (by omega) (by omega))

/-- The four cells of a number. -/
theorem four {w : World} {b n : Nat} {t : TypeId} (h : w.heap[b]? = some (.cells (wcells n 4) t (0, 0))) :
    (w.cell? ⟨b, 0, none⟩ = some (.int .u64 (limb n 0)) ∧ w.cell? ⟨b, 1, none⟩ = some (.int .u64 (limb n 1)) ∧ w.cell? ⟨b, 2, none⟩ = some (.int .u64 (limb n 2)) ∧ w.cell? ⟨b, 3, none⟩ = some (.int .u64 (limb n 3))) ∧
    (w.frozen? ⟨b, 0, none⟩ = false ∧ w.frozen? ⟨b, 1, none⟩ = false ∧ w.frozen? ⟨b, 2, none⟩ = false ∧ w.frozen? ⟨b, 3, none⟩ = false) := by
  refine ⟨⟨?_, ?_, ?_, ?_⟩, frozen_of_row _ _ _ _ _ h, frozen_of_row _ _ _ _ _ h, frozen_of_row _ _ _ _ _ h, frozen_of_row _ _ _ _ _ h⟩ <;>
    (rw [cell_of_row _ _ _ _ _ _ h]; exact wcells_get _ _ _ (by omega))

/-- What holds at the loops' heads. -/
structure ModSt (w : World) (P r : Nat) (wr : World) : Prop where
  r : wr.heap[w.heap.size + 1]? = some (.cells (wcells r 4) 41 (0, 0))
  l : wr.heap[P]? = some (.cells (wcells ordL 4) 41 (0, 0))
  o : ∃ z, wr.heap[w.heap.size]? = some (.cells (wcells z 4) 41 (0, 0))
  P : w.heap.size + 2 ≤ P
  below : Below w.heap.size w wr

def set4 (w : World) (b n : Nat) : World :=
  (((w.setCell ⟨b, 0, none⟩ (.int .u64 (limb n 0))).setCell ⟨b, 1, none⟩ (.int .u64 (limb n 1))).setCell ⟨b, 2, none⟩ (.int .u64 (limb n 2))).setCell ⟨b, 3, none⟩ (.int .u64 (limb n 3))
theorem set4_same {w : World} {b r : Nat} {t : TypeId} (n : Nat) (h : w.heap[b]? = some (.cells (wcells r 4) t (0, 0))) : (set4 w b n).heap[b]? = some (.cells (wcells n 4) t (0, 0)) := by
  have h1 := heap_setCell_same _ _ 0 _ _ (.int .u64 (limb n 0)) h
  have h2 := heap_setCell_same _ _ 1 _ _ (.int .u64 (limb n 1)) h1
  have h3 := heap_setCell_same _ _ 2 _ _ (.int .u64 (limb n 2)) h2
  have h4 := heap_setCell_same _ _ 3 _ _ (.int .u64 (limb n 3)) h3
  refine h4.trans ?_
  simp [wcells, List.range, List.range.loop]
theorem set4_other (w : World) (b n k : Nat) (h : k ≠ b) : (set4 w b n).heap[k]? = w.heap[k]? := by
  unfold set4
  rw [heap_setCell_other _ _ _ _ (by simpa using h), heap_setCell_other _ _ _ _ (by simpa using h), heap_setCell_other _ _ _ _ (by simpa using h), heap_setCell_other _ _ _ _ (by simpa using h)]
theorem set4_below {w wr : World} {b : Nat} (n : Nat) (h : Below w.heap.size w wr) (hb : w.heap.size ≤ b) : Below w.heap.size w (set4 wr b n) :=
  (((h.setCell hb _).setCell hb _).setCell hb _).setCell hb _
theorem ModSt.lt {w wr : World} {P r : Nat} (h : ModSt w P r wr) : P < wr.heap.size ∧ w.heap.size + 2 ≤ P := ⟨(Array.getElem?_eq_some_iff.1 h.l).1, h.P⟩
theorem ModSt.grow {w wr w1 : World} {P r : Nat} (h : ModSt w P r wr) (hb : Below wr.heap.size wr w1) : ModSt w P r w1 := by
  have := h.lt
  obtain ⟨z, hz⟩ := h.o
  exact ⟨(hb.block _ (by omega)).trans h.r, (hb.block _ (by omega)).trans h.l, ⟨z, (hb.block _ (by omega)).trans hz⟩, h.P, h.below.trans (hb.mono h.below.size)⟩
theorem ModSt.set {w wr : World} {P r : Nat} (h : ModSt w P r wr) (n : Nat) : ModSt w P n (set4 wr (w.heap.size + 1) n) := by
  have := h.lt
  obtain ⟨z, hz⟩ := h.o
  exact ⟨set4_same n h.r, by rw [set4_other _ _ _ _ (by omega)]; exact h.l, ⟨z, by rw [set4_other _ _ _ _ (by omega)]; exact hz⟩, h.P, set4_below n h.below (by omega)⟩

theorem bit_of (N j m : Nat) (hm : m < 64) : bits .and .u64 (limb N j / 2 ^ m) 1 = ((N / 2 ^ (64 * j + m) % 2 : Nat) : Int) := by
  unfold limb
  rw [Nat.pow_add, ← Nat.div_div_eq_div_mul]
  generalize N / 2 ^ (64 * j) = x
  have e : (18446744073709551616 : Nat) = 2 ^ m * 2 ^ (64 - m) := by rw [← Nat.pow_add, show m + (64 - m) = 64 from by omega]
  have h1 : ((x % 18446744073709551616 : Nat) : Int) / 2 ^ m = ((x / 2 ^ m % 2 ^ (64 - m) : Nat) : Int) := by
    rw [show ((2 : Int) ^ m) = ((2 ^ m : Nat) : Int) from by simp, ← Int.natCast_ediv, e, Nat.mod_mul_right_div_self]
  have h2 : x / 2 ^ m % 2 ^ (64 - m) < 2 ^ 64 := Nat.lt_of_lt_of_le (Nat.mod_lt _ (Nat.two_pow_pos _)) (Nat.pow_le_pow_right (by omega) (by omega))
  rw [h1, show (1 : Int) = ((1 : Nat) : Int) from rfl, u64_and_nat _ _ h2 (by omega), nat_mask1, Nat.mod_mod_of_dvd]
  exact ⟨2 ^ (64 - m - 1), by rw [← Nat.pow_succ']; congr 1; omega⟩

theorem mod_step (N m : Nat) (h : m ≥ 1) : (2 * (N / 2 ^ m % ordL) + N / 2 ^ (m - 1) % 2) % ordL = N / 2 ^ (m - 1) % ordL := by
  obtain ⟨k, rfl⟩ : ∃ k, m = k + 1 := ⟨m - 1, by omega⟩
  simp only [Nat.add_sub_cancel]
  rw [Nat.pow_succ, ← Nat.div_div_eq_div_mul]
  generalize N / 2 ^ k = x
  unfold ordL; omega

set_option maxHeartbeats 400000 in
theorem mod_any (N c b : Nat) (w : World) (hc : c ≤ 8) (hN : InWords N c) (hb : w.heap[b]? = some (.cells (wcells N c) 37 (0, 0))) :
    Calls Try.prog 23 #[.slice (some ⟨b, 0, none⟩) c c] w fun e w' => e = .returned (limbs (N % ordL)) ∧ Below w.heap.size w w' := by
  have hbB : b < w.heap.size := (Array.getElem?_eq_some_iff.1 hb).1
  have HB := Box.mk hb; clear hb
  have HN := Box.mk hN; clear hN
  go_enter Try.func23, Try.ntmps23
  go_wp2_with fail
  refine (order_any _).mono ?_; rintro e w1 ⟨rfl, hb1⟩
  obtain ⟨n0, n1, nb, hz1⟩ := two_new hb1
  clear hb1
  rw [limbs_wcells]
  have hl : wcells ordL 4 = #[.int .u64 (limb ordL 0), .int .u64 (limb ordL 1), .int .u64 (limb ordL 2), .int .u64 (limb ordL 3)] := by simp [wcells, List.range, List.range.loop]
  have h00 : wcells 0 4 = #[.int .u64 0, .int .u64 0, .int .u64 0, .int .u64 0] := by simp [wcells, List.range, List.range.loop, limb]
  have hst : ModSt w w1.heap.size 0 (w1.alloc (.cells (wcells ordL 4) 41 (0, 0))) := by
    refine ⟨?_, ?_, ⟨0, ?_⟩, by omega, ?_⟩
    · rw [heap_alloc_old _ _ (by omega), n1, h00]
    · rw [heap_alloc_new]
    · rw [heap_alloc_old _ _ (by omega), n0, h00]
    · exact nb.alloc (by omega) _
  generalize hP : w1.heap.size = P at hst
  rw [hl] at hst ⊢
  have HS := Box.mk hst; clear hst
  clear nb n0 n1 hl h00
  go_wp2_with fail
  clear hP hz1
  generalize (w1.alloc _) = w2 at HS ⊢
  go_loopw [5] (fun i wr => ∃ j : Nat, j ≤ c ∧ i = .int .i64 ((j : Int) - 1) ∧ ModSt w P (N / 2 ^ (64 * j) % ordL) wr) (fun i _ => (intOf i + 1).toNat)
  case atStart => exact ⟨c, Nat.le_refl _, rfl, by rw [Nat.div_eq_of_lt (HN.out : N < 2 ^ (64 * c))]; exact HS.out⟩
  case round =>
    obtain ⟨j, hj, rfl, hs⟩ := hrel
    have HS := Box.mk hs; clear hs
    rcases j with _ | j
    · obtain ⟨⟨r0, r1, r2, r3⟩, _⟩ := four HS.out.r
      obtain ⟨z, hz⟩ := HS.out.o
      obtain ⟨⟨o0, o1, o2, o3⟩, f0, f1, f2, f3⟩ := four hz
      clear hz
      go_wp2
      refine bodyPost_ret (v := limbs (N % ordL)) (by simp [results, Try.results23, go_sem, o0, o1, o2, o3]; rfl) rfl ?_
      refine ⟨rfl, ?_⟩
      exact (((HS.out.below.setCell (Nat.le_refl _) _).setCell (Nat.le_refl _) _).setCell (Nat.le_refl _) _).setCell (Nat.le_refl _) _
    · rw [show ((j + 1 : Nat) : Int) - 1 = (j : Int) from by omega]
      go_wp2_with fail
      go_loopw [6] (fun i wr => ∃ m : Nat, m ≤ 64 ∧ i = .int .i64 ((m : Int) - 1) ∧ ModSt w P (N / 2 ^ (64 * j + m) % ordL) wr) (fun i _ => (intOf i + 1).toNat)
      case atStart => exact ⟨64, Nat.le_refl _, rfl, by rw [show 64 * j + 64 = 64 * (j + 1) from by omega]; exact HS.out⟩
      case round =>
        obtain ⟨m, hm, rfl, hs⟩ := hrel
        have HS1 := Box.mk hs; clear hs
        clear HS
        rcases m with _ | m
        · go_wp2_with fail
          exact ⟨⟨j, by omega, rfl, HS1.out⟩, by simp [intOf]⟩
        · rw [show ((m + 1 : Nat) : Int) - 1 = (m : Int) from by omega]
          have hword : wr.cell? ⟨b, j, none⟩ = some (.int .u64 (limb N j)) := by
            rw [HS1.out.below.cell hbB, cell_of_row _ _ _ _ _ _ HB.out]; exact wcells_get _ _ _ (by omega)
          have hlb := limb_bd N j
          obtain ⟨⟨r0, r1, r2, r3⟩, f0, f1, f2, f3⟩ := four HS1.out.r
          go_wp2_with fail
          have hj' : (j : Int) < (c : Int) := by omega
          have hm0 : m < 64 := by omega
          generalize hX : N / 2 ^ (64 * j + (m + 1)) % ordL = X at r0 r1 r2 r3
          have HX := Box.mk hX; clear hX
          generalize hY : limb N j = Y at hword hlb
          have HY := Box.mk hY; clear hY
          have hbe : bits .and .u64 (Y / 2 ^ m) 1 = ((N / 2 ^ (64 * j + m) % 2 : Nat) : Int) := by rw [← HY.out, bit_of N j m hm0]
          have hbit : 0 ≤ bits .and .u64 (Y / 2 ^ m) 1 ∧ bits .and .u64 (Y / 2 ^ m) 1 ≤ 1 := by rw [hbe]; omega
          have hlt := HS1.out.lt
          generalize hbt : bits .and .u64 (Y / 2 ^ m) 1 = bt at hbit hbe
          have HBE := Box.mk hbe; clear hbe
          go_still_tail 8, (by kernel_rfl)
          change wpList _ _ _ _ _ wr.drew
          go_wp2_with fail
          refine (twice_int X bt hbit _).mono ?_
          rintro e w1 ⟨rfl, hb1⟩
          have HS2 := Box.mk (HS1.out.grow ((Below.refl _ _).drew.trans hb1))
          obtain ⟨⟨r0', r1', r2', r3'⟩, f0', f1', f2', f3'⟩ := four HS2.out.r
          clear hb1
          unfold limbs
          go_upto_region 10 with (fail)
          generalize hw2 : World.setCell (World.setCell (World.setCell (World.setCell w1 _ _) _ _) _ _) _ _ = w2
          have HS3 : Box (ModSt w P (dbl X bt.toNat) w2) := by rw [← hw2]; exact ⟨HS2.out.set _⟩
          have HV : Box (dbl X bt.toNat % ordL = N / 2 ^ (64 * j + m) % ordL ∧ dbl X bt.toNat < 2 * ordL) := Box.mk <| by
            have hX1 : X < ordL := by rw [← HX.out]; exact Nat.mod_lt _ (by unfold ordL; omega)
            have hs := mod_step N (64 * j + (m + 1)) (by omega)
            rw [HX.out, show 64 * j + (m + 1) - 1 = 64 * j + m from by omega] at hs
            have hd : dbl X bt.toNat = 2 * X + N / 2 ^ (64 * j + m) % 2 := by
              rw [HBE.out, Int.toNat_natCast]
              unfold dbl; unfold ordL at hX1; omega
            rw [hd]
            exact ⟨hs, by omega⟩
          clear hw2 HS2 hbit hbt hlb hlt hword r0 r1 r2 r3 f0 f1 f2 f3 r0' r1' r2' r3' f0' f1' f2' f3'
          generalize dbl X bt.toNat = V at HS3 HV ⊢
          obtain ⟨⟨r0, r1, r2, r3⟩, f0, f1, f2, f3⟩ := four HS3.out.r
          obtain ⟨⟨l0, l1, l2, l3⟩, _⟩ := four HS3.out.l
          have hlt := HS3.out.lt
          go_wp2_with fail
          refine (less_any V ordL ?_ ?_ _).mono ?_
          · have := HV.out.2; unfold ordL at this; omega
          · unfold ordL; omega
          rintro e w3 ⟨rfl, hb3⟩
          have HS4 := Box.mk (HS3.out.grow hb3)
          obtain ⟨⟨r0', r1', r2', r3'⟩, f0', f1', f2', f3'⟩ := four HS4.out.r
          have hz3 := hb3.size
          clear hb3
          have hz4 : w.heap.size + 1 < w3.heap.size := by have := HS4.out.lt; omega
          by_cases hd : V < ordL
          · rw [decide_eq_true hd]
            unfold limbs
            go_wp2
            refine ⟨⟨m, by omega, rfl, ?_⟩, by simp [intOf]⟩
            rw [← HV.out.1, Nat.mod_eq_of_lt hd]
            exact HS4.out.grow ((Below.refl _ _).alloc (Nat.le_refl _) _)
          · rw [decide_eq_false hd]
            unfold limbs
            go_wp2
            refine ⟨⟨m, by omega, rfl, ?_⟩, by simp [intOf]⟩
            have hV := HV.out.2
            have e : N / 2 ^ (64 * j + m) % ordL = dif V ordL := by
              rw [← HV.out.1]; unfold dif; unfold ordL at hd hV ⊢; omega
            rw [e]
            exact (HS4.out.set (dif V ordL)).grow ((Below.refl _ _).alloc (Nat.le_refl _) _)
end Go.Proofs.Ytilehlgnkfjcpaa
