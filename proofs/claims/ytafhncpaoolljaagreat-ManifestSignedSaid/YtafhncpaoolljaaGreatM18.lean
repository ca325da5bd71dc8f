/- The package limbs: Mul. -/
import Derived.Test.YtafhncpaoolljaaGreatM17
import Derived.Test.YtafhncpaoolljaaGreatM11
namespace Go.Proofs.YtafhncpaoolljaaGreat.Fe
set_option maxRecDepth 100000
set_option linter.unusedVariables false
open Go Go.RowKit
def hiF (A : Nat → Nat) : Nat → Nat := fun j => A j / 18446744073709551616
def loF (A : Nat → Nat) : Nat → Nat := fun j => A j % 18446744073709551616
theorem hiF_upd (A : Nat → Nat) (q x : Nat) : upd (hiF A) q (x / 18446744073709551616) = hiF (upd A q x) := by
 funext j; simp only [upd, hiF]; split <;> rfl
theorem loF_upd (A : Nat → Nat) (q x : Nat) : upd (loF A) q (x % 18446744073709551616) = loF (upd A q x) := by
 funext j; simp only [upd, loF]; split <;> rfl
theorem add_word (X T : Nat) (s1 o1 s2 o2 : Int) (hb : X + T < 170141183460469231731687303715884105728) (b1 : 0 ≤ s1 ∧ s1 < 18446744073709551616) (k1 : 0 ≤ o1 ∧ o1 ≤ 1) (b2 : 0 ≤ s2 ∧ s2 < 18446744073709551616) (k2 : 0 ≤ o2 ∧ o2 ≤ 1)
   (h1 : s1 + 18446744073709551616 * o1 = ((X % 18446744073709551616 : Nat) : Int) + ((T % 18446744073709551616 : Nat) : Int) + 0) (h2 : s2 + 18446744073709551616 * o2 = ((X / 18446744073709551616 : Nat) : Int) + ((T / 18446744073709551616 : Nat) : Int) + o1) :
   s1 = (((X + T) % 18446744073709551616 : Nat) : Int) ∧ s2 = (((X + T) / 18446744073709551616 : Nat) : Int) := by omega
structure MSt (w : World) (a b A : Nat → Nat) (wr : World) : Prop where
 a : wr.heap[w.heap.size]? = some (.cells (ecell a) 56 (0, 0))
 b : wr.heap[w.heap.size + 1]? = some (.cells (ecell b) 56 (0, 0))
 r : wr.heap[w.heap.size + 2]? = some (.cells (ecell f0) 56 (0, 0))
 hi : wr.heap[w.heap.size + 3]? = some (.cells (ecell (hiF A)) 55 (0, 0))
 lo : wr.heap[w.heap.size + 4]? = some (.cells (ecell (loF A)) 55 (0, 0))
 bel : Below w.heap.size w wr
theorem MSt.put {w wr : World} {a b A : Nat → Nat} (h : MSt w a b A wr) (q x : Nat) (hq : q < 5) (s1 s2 : Int) (h1 : s1 = (x % 18446744073709551616 : Nat)) (h2 : s2 = (x / 18446744073709551616 : Nat)) :
   MSt w a b (upd A q x) ((wr.setCell ⟨w.heap.size + 4, q, none⟩ (.int .u64 s1)).setCell ⟨w.heap.size + 3, q, none⟩ (.int .u64 s2)) := by
 refine ⟨?_, ?_, ?_, ?_, ?_, (h.bel.setCell (by simp) _).setCell (by simp) _⟩
 · rw [heap_setCell_other _ _ _ _ (by simp), heap_setCell_other _ _ _ _ (by simp)]; exact h.a
 · rw [heap_setCell_other _ _ _ _ (by simp), heap_setCell_other _ _ _ _ (by simp)]; exact h.b
 · rw [heap_setCell_other _ _ _ _ (by simp), heap_setCell_other _ _ _ _ (by simp)]; exact h.r
 · have e : (wr.setCell ⟨w.heap.size + 4, q, none⟩ (.int .u64 s1)).heap[w.heap.size + 3]? = some (.cells (ecell (hiF A)) 55 (0, 0)) := by
     rw [heap_setCell_other _ _ _ _ (by simp)]; exact h.hi
   rw [heap_setCell_same _ _ _ _ _ _ e, ecell_set _ _ hq _ _ h2, hiF_upd]
 · rw [heap_setCell_other _ _ _ _ (by simp), heap_setCell_same _ _ _ _ _ _ h.lo, ecell_set _ _ hq _ _ h1, loF_upd]
set_option maxRecDepth 100000 in
set_option maxHeartbeats 4000000 in
theorem mul_any (a b : Nat → Nat) (ha : Lim 2 a) (hb : Lim 2 b) (w : World) :
   Calls Tryz.prog 58 #[.agg (ecell a), .agg (ecell b)] w fun e w' => ∃ h, e = .returned (.agg (ecell h)) ∧ Lim 2 h ∧ lv h % fp = lv a * lv b % fp ∧ Below w.heap.size w w' := by
 have hz := zeroE
 have hz5 : ∀ w, (zeroValue 55).run Tryz.prog w = .ok (.agg z5) w := fun _ => by kernel_rfl
 have S := add64_ex Tryz.prog 49 _ Tryz.func49 (by kernel_rfl) (by kernel_rfl) (by kernel_rfl) (by kernel_rfl)
 have S := Box.mk S
 obtain ⟨W0, hW0⟩ : ∃ W, W = ((((w.alloc (.cells (ecell a) 56)).alloc (.cells (ecell b) 56)).alloc (.cells z5 56)).alloc (.cells z5 55)).alloc (.cells z5 55) := ⟨_, rfl⟩
 have st0 : MSt w a b (fun _ => 0) W0 := by
   have e0 := heap_alloc_new w (.cells (ecell a) 56)
   have e1 := heap_alloc_new (w.alloc (.cells (ecell a) 56)) (.cells (ecell b) 56)
   have e2 := heap_alloc_new ((w.alloc (.cells (ecell a) 56)).alloc (.cells (ecell b) 56)) (.cells z5 56)
   have e3 := heap_alloc_new (((w.alloc (.cells (ecell a) 56)).alloc (.cells (ecell b) 56)).alloc (.cells z5 56)) (.cells z5 55)
   have e4 := heap_alloc_new ((((w.alloc (.cells (ecell a) 56)).alloc (.cells (ecell b) 56)).alloc (.cells z5 56)).alloc (.cells z5 55)) (.cells z5 55)
   simp only [World.size_alloc, Nat.add_assoc, Nat.reduceAdd] at e1 e2 e3 e4
   refine ⟨?_, ?_, ?_, ?_, ?_, by rw [hW0]; go_grown⟩
   · rw [hW0, heap_alloc_old _ _ (by simp <;> omega), heap_alloc_old _ _ (by simp <;> omega), heap_alloc_old _ _ (by simp <;> omega), heap_alloc_old _ _ (by simp)]; exact e0
   · rw [hW0, heap_alloc_old _ _ (by simp <;> omega), heap_alloc_old _ _ (by simp <;> omega), heap_alloc_old _ _ (by simp)]; exact e1
   · rw [hW0, heap_alloc_old _ _ (by simp), heap_alloc_old _ _ (by simp)]; exact e2
   · rw [hW0, heap_alloc_old _ _ (by simp)]; exact e3
   · rw [hW0]; exact e4
 have ST0 := Box.mk st0; have HA := Box.mk ha; have HB := Box.mk hb
 clear st0 ha hb
 go_enter Tryz.func58, Tryz.ntmps58
 go_wp2_with fail
 rw [← hW0, show w.heap.size + 1 + 1 + 1 + 1 = w.heap.size + 4 from rfl, show w.heap.size + 1 + 1 + 1 = w.heap.size + 3 from rfl, show w.heap.size + 1 + 1 = w.heap.size + 2 from rfl]
 clear hW0
 go_loopw [25] (fun i wr => ∃ (i' : Nat) (A : Nat → Nat), i' ≤ 5 ∧ i = .int .i64 i' ∧ Acc a b i' 0 A ∧ MSt w a b A wr) (fun i _ => (5 - intOf i).toNat)
 case atStart => exact ⟨0, _, by omega, rfl, Acc.start a b, ST0.out⟩
 case round =>
   clear ST0
   obtain ⟨i, A, hi, rfl, hacc, hst⟩ := hrel
   by_cases hil : i < 5
   · have hiI : (i : Int) < 5 := by omega
     have HACC := Box.mk hacc; have HST := Box.mk hst
     clear hacc hst
     go_wp2_with fail
     obtain ⟨wo, rfl⟩ : ∃ wo : World, wo = wr := ⟨_, rfl⟩
     go_loopw [28] (fun k wr => ∃ (k' : Nat) (A : Nat → Nat), k' ≤ 5 ∧ k = .int .i64 k' ∧ Acc a b i k' A ∧ MSt w a b A wr) (fun k _ => (5 - intOf k).toNat)
     case atStart => exact ⟨0, _, by omega, rfl, HACC.out, HST.out⟩
     case round =>
       clear HACC HST
       clear A
       obtain ⟨k, A, hk, rfl, hacc, hst⟩ := hrel
       by_cases hkl : k < 5
       · have hkI : (k : Int) < 5 := by omega
         obtain ⟨ht, hty, hta⟩ := Acc.term HA.out HB.out i k hil hkl
         have hstep := hacc.step HA.out HB.out hil hkl
         have hq5 : at5 i k < 5 := by unfold at5; split <;> omega
         have hlt := hstep.lt (by omega) (at5 i k) hq5
         rw [upd_same] at hlt
         have ca : wr.cell? ⟨w.heap.size, i, none⟩ = some (.int .u64 (a i : Nat)) := by rw [cell_of_row _ _ _ _ _ _ hst.a]; exact ecell_get _ _ hil
         have cb : wr.cell? ⟨w.heap.size + 1, k, none⟩ = some (.int .u64 (b k : Nat)) := by rw [cell_of_row _ _ _ _ _ _ hst.b]; exact ecell_get _ _ hkl
         have bb : b k < 18446744073709551616 := by
           have := hty; unfold y5 at this; split at this <;> omega
         obtain ⟨y, hy⟩ : ∃ y, y = y5 b i k := ⟨_, rfl⟩
         obtain ⟨q, hq⟩ : ∃ q, q = at5 i k := ⟨_, rfl⟩
         have cl : wr.cell? ⟨w.heap.size + 4, q, none⟩ = some (.int .u64 (A q % 18446744073709551616 : Nat)) := by rw [cell_of_row _ _ _ _ _ _ hst.lo]; exact ecell_get _ _ (by omega)
         have ch : wr.cell? ⟨w.heap.size + 3, q, none⟩ = some (.int .u64 (A q / 18446744073709551616 : Nat)) := by rw [cell_of_row _ _ _ _ _ _ hst.hi]; exact ecell_get _ _ (by omega)
         have zl : wr.frozen? ⟨w.heap.size + 4, q, none⟩ = false := frozen_of_row _ _ _ _ _ hst.lo
         have zh : wr.frozen? ⟨w.heap.size + 3, q, none⟩ = false := frozen_of_row _ _ _ _ _ hst.hi
         rw [← hy, ← hq] at hstep hlt
         rw [← hy] at ht hty
         obtain ⟨T, hT⟩ : ∃ T, T = a i * y := ⟨_, rfl⟩
         have hmul := mul64w_any (a i) y hta hty
         rw [← hT] at hstep hlt ht hmul
         have hput := hst.put q (A q + T) (by omega)
         obtain ⟨X, hX⟩ : ∃ X, X = A q := ⟨_, rfl⟩
         rw [← hX] at hstep hlt cl ch hput
         have hTb : T ≤ 162259276829213363391578010288128 := by rw [← kk_eq]; exact ht
         obtain ⟨s1, o1, r1, b1, k1, h1⟩ := S.out ((X % 18446744073709551616 : Nat) : Int) ((T % 18446744073709551616 : Nat) : Int) 0 (by omega) (by omega) (by omega)
         obtain ⟨s2, o2, r2, b2, k2, h2⟩ := S.out ((X / 18446744073709551616 : Nat) : Int) ((T / 18446744073709551616 : Nat) : Int) o1 (by omega) (by omega) k1
         obtain ⟨e1, e2⟩ := add_word X T s1 o1 s2 o2 (by omega) b1 k1 b2 k2 h1 h2
         have hput := hput s1 s2 e1 e2
         have HPUT := Box.mk hput; have HSTEP := Box.mk hstep; have HMUL := Box.mk hmul; have HST := Box.mk hst
         have hqi : (q : Int) < 5 := by omega
         generalize ((X % 18446744073709551616 : Nat) : Int) = xl at cl r1
         generalize ((X / 18446744073709551616 : Nat) : Int) = xh at ch r2
         generalize ((T % 18446744073709551616 : Nat) : Int) = tl at r1 HMUL
         generalize ((T / 18446744073709551616 : Nat) : Int) = th at r2 HMUL
         clear hput hstep hmul hst hacc e1 e2 h1 h2 b1 b2 k1 k2 hlt ht hTb hX hT
         obtain ⟨bk, hbk⟩ : ∃ bk, bk = b k := ⟨_, rfl⟩
         obtain ⟨ai, hai⟩ : ∃ ai, ai = a i := ⟨_, rfl⟩
         rw [← hbk] at cb bb
         rw [← hai] at ca HMUL hta
         have HBK := Box.mk hbk; clear hbk hai
         obtain ⟨s, hs⟩ : ∃ s, s = i + k := ⟨_, rfl⟩
         have hsI : (i : Int) + (k : Int) = (s : Int) := by omega
         by_cases h5 : 5 ≤ i + k
         case' pos =>
           have hqe : (s : Int) - 5 = (q : Int) := by rw [hq]; unfold at5; rw [if_pos h5]; omega
           have hsB : (5 : Int) ≤ (s : Int) := by omega
           have hye : IntKind.u64.wrap (19 * (bk : Int)) = (y : Int) := by
             have : y = 19 * bk := by rw [hy, HBK.out]; unfold y5; rw [if_pos h5]
             rw [IntKind.wrap_u64]; omega
           clear hq hy hs h5
           go_wp2_with fail
         case' neg =>
           have hqe : s = q := by rw [hq]; unfold at5; rw [if_neg h5]; omega
           have hsB : ¬ (5 : Int) ≤ (s : Int) := by omega
           have hye : bk = y := by rw [hy, HBK.out]; unfold y5; rw [if_neg h5]
           clear hq hy hs h5
           subst hqe hye
           go_wp2_with fail
         all_goals
           refine (HMUL.out _).mono ?_
           rintro e w2 ⟨rfl, rfl⟩
           go_wp2
           exact ⟨⟨k + 1, _, by omega, by go_num, HSTEP.out, HPUT.out⟩, by simp [intOf]; omega⟩
       · obtain rfl : k = 5 := by omega
         have HN := Box.mk hacc.next; have HST := Box.mk hst
         clear hacc hst
         go_wp2
         exact ⟨⟨i + 1, A, by omega, by go_num, HN.out, HST.out⟩, by simp [intOf]; omega⟩
   · obtain rfl : i = 5 := by omega
     have hall := hacc.all
     have hAb := hacc.lt (by omega)
     obtain ⟨bo, hbo⟩ : ∃ bo, bo = wr.heap.size := ⟨_, rfl⟩
     have hbl : w.heap.size + 4 < bo := by rw [hbo]; exact (Array.getElem?_eq_some_iff.1 hst.lo).1
     obtain ⟨W5, hW5⟩ : ∃ W, W = wr.alloc (.cells z5 56) := ⟨_, rfl⟩
     have p1 : W5.heap[bo]? = some (.cells (ecell f0) 56 (0, 0)) := by rw [hW5, hbo]; exact heap_alloc_new _ _
     have p2 : W5.heap[w.heap.size + 2]? = some (.cells (ecell f0) 56 (0, 0)) := by rw [hW5, heap_alloc_old _ _ (by omega)]; exact hst.r
     have p3 : W5.heap[w.heap.size + 3]? = some (.cells (ecell (hiF A)) 55 (0, 0)) := by rw [hW5, heap_alloc_old _ _ (by omega)]; exact hst.hi
     have p4 : W5.heap[w.heap.size + 4]? = some (.cells (ecell (loF A)) 55 (0, 0)) := by rw [hW5, heap_alloc_old _ _ (by omega)]; exact hst.lo
     have p5 : Below w.heap.size w W5 := by rw [hW5]; exact hst.bel.alloc hst.bel.size _
     have P1 := Box.mk p1; have P2 := Box.mk p2; have P3 := Box.mk p3; have P4 := Box.mk p4; have P5 := Box.mk p5; have HALL := Box.mk hall; have HAB := Box.mk hAb
     clear p1 p2 p3 p4 p5 hall hAb hacc hst
     go_wp2_with fail
     rw [← hW5, ← hbo]
     clear hW5 hbo
     go_loopw [15, 16, 74] (fun chv clv i wr => ∃ (i' c : Nat) (f : Nat → Nat), i' ≤ 5 ∧ i = .int .i64 i' ∧ chv = .int .u64 0 ∧ clv = .int .u64 c ∧ Chn A i' f c ∧ wr.heap[bo]? = some (.cells (ecell f) 56 (0, 0)) ∧ wr.heap[w.heap.size + 2]? = some (.cells (ecell f0) 56 (0, 0)) ∧
       wr.heap[w.heap.size + 3]? = some (.cells (ecell (hiF A)) 55 (0, 0)) ∧ wr.heap[w.heap.size + 4]? = some (.cells (ecell (loF A)) 55 (0, 0)) ∧ Below w.heap.size w wr) (fun _ _ i _ => (5 - intOf i).toNat)
     case atStart => exact ⟨0, 0, _, by omega, rfl, rfl, rfl, Chn.start A, P1.out, P2.out, P3.out, P4.out, P5.out⟩
     case round =>
       clear P1 P2 P3 P4 P5
       obtain ⟨i, c, f, hi, rfl, rfl, rfl, hch, ho, hr, hhi, hlo, hb⟩ := hrel
       by_cases hil : i < 5
       · have hiI : (i : Int) < 5 := by omega
         have hstep := hch.step (HAB.out i hil)
         have hAi := HAB.out i hil
         have hc := hch.c
         have c3 : wr.cell? ⟨w.heap.size + 3, i, none⟩ = some (.int .u64 (A i / 18446744073709551616 : Nat)) := by rw [cell_of_row _ _ _ _ _ _ hhi]; exact ecell_get _ _ hil
         have c4 : wr.cell? ⟨w.heap.size + 4, i, none⟩ = some (.int .u64 (A i % 18446744073709551616 : Nat)) := by rw [cell_of_row _ _ _ _ _ _ hlo]; exact ecell_get _ _ hil
         have co : wr.cell? ⟨bo, i, none⟩ = some (.int .u64 (f i : Nat)) := by rw [cell_of_row _ _ _ _ _ _ ho]; exact ecell_get _ _ hil
         have zo : wr.frozen? ⟨bo, i, none⟩ = false := frozen_of_row _ _ _ _ _ ho
         have HSET := Box.mk (ecell_set f i hil)
         obtain ⟨X, hX⟩ : ∃ X, X = A i := ⟨_, rfl⟩
         rw [← hX] at hstep hAi c3 c4
         obtain ⟨s1, o1, r1, b1, k1, h1⟩ := S.out ((X % 18446744073709551616 : Nat) : Int) (c : Int) 0 (by omega) (by omega) (by omega)
         obtain ⟨s2, o2, r2, b2, k2, h2⟩ := S.out ((X / 18446744073709551616 : Nat) : Int) 0 o1 (by omega) (by omega) k1
         obtain ⟨e1, e2⟩ := add_word X c s1 o1 s2 o2 (by omega) b1 k1 b2 k2 (by rw [Nat.mod_eq_of_lt (a := c) (by omega)]; exact h1) (by rw [Nat.div_eq_of_lt (a := c) (by omega)]; exact h2)
         obtain ⟨r, hr2⟩ : ∃ r, r = (X + c) % 2251799813685248 := ⟨_, rfl⟩
         obtain ⟨d, hd⟩ : ∃ d, d = (X + c) / 2251799813685248 := ⟨_, rfl⟩
         rw [← hr2, ← hd] at hstep
         obtain ⟨l, hl⟩ : ∃ l : Nat, l = (X + c) % 18446744073709551616 := ⟨_, rfl⟩
         obtain ⟨h, hh⟩ : ∃ h : Nat, h = (X + c) / 18446744073709551616 := ⟨_, rfl⟩
         rw [← hl] at e1; rw [← hh] at e2
         subst e1 e2
         have hand := and51 l (by omega)
         rw [show l % 2251799813685248 = r from by omega] at hand
         obtain ⟨m, hm⟩ : ∃ m, m = l / 2251799813685248 := ⟨_, rfl⟩
         have hmI : (l : Int) / 2251799813685248 = (m : Int) := by omega
         obtain ⟨n, hn⟩ : ∃ n, n = h * 8192 := ⟨_, rfl⟩
         have hnI : IntKind.u64.wrap ((h : Int) * 8192) = (n : Int) := by rw [IntKind.wrap_u64]; omega
         have hor : bits .or .u64 (m : Int) (n : Int) = (d : Int) := by
           rw [u64_or_nat _ _ (by omega) (by omega), Nat.or_comm, nat_join 13 n m (by omega) (by omega)]; omega
         have hh0 : (h : Int) / 2251799813685248 = 0 := by omega
         generalize ((X % 18446744073709551616 : Nat) : Int) = xl at c4 r1
         generalize ((X / 18446744073709551616 : Nat) : Int) = xh at c3 r2
         have HSTEP := Box.mk hstep; have HO := Box.mk ho; have HR := Box.mk hr; have HHI := Box.mk hhi; have HLO := Box.mk hlo; have HBE := Box.mk hb
         clear hstep ho hr hhi hlo hb hch hAi hc hX b1 k1 h1 b2 k2 h2 hr2 hd hl hh hm hn
         go_wp2
         refine ⟨⟨i + 1, d, upd f i r, by omega, by go_num, rfl, rfl, HSTEP.out, ?_, ?_, ?_, ?_, HBE.out.setCell (by simp; omega) _⟩, by simp [intOf]; omega⟩
         · rw [heap_setCell_same _ _ _ _ _ _ HO.out, HSET.out r _ rfl]
         · rw [heap_setCell_other _ _ _ _ (by simp; omega)]; exact HR.out
         · rw [heap_setCell_other _ _ _ _ (by simp; omega)]; exact HHI.out
         · rw [heap_setCell_other _ _ _ _ (by simp; omega)]; exact HLO.out
       · obtain rfl : i = 5 := by omega
         obtain ⟨hlim, hval⟩ := hch.done
         have hc := hch.c
         have l0 := hch.low 0 (by omega); have l1 := hch.low 1 (by omega)
         have co : wr.cell? ⟨bo, 0, none⟩ = some (.int .u64 (f 0 : Nat)) := by rw [cell_of_row _ _ _ _ _ _ ho]; exact ecell_get _ _ (by omega)
         have co1 : wr.cell? ⟨bo, 1, none⟩ = some (.int .u64 (f 1 : Nat)) := by rw [cell_of_row _ _ _ _ _ _ ho]; exact ecell_get _ _ (by omega)
         have zo : wr.frozen? ⟨bo, 0, none⟩ = false := frozen_of_row _ _ _ _ _ ho
         have zo1 : wr.frozen? ⟨bo, 1, none⟩ = false := frozen_of_row _ _ _ _ _ ho
         have HSET := Box.mk (ecell_set f 0 (by omega))
         have hmul := mul64w_any c 19 (by omega) (by omega)
         obtain ⟨U, hU⟩ : ∃ U, U = f 0 + 19 * c := ⟨_, rfl⟩
         rw [← hU] at hlim hval
         obtain ⟨s1, o1, r1, b1, k1, h1⟩ := S.out ((f 0 : Nat) : Int) ((c * 19 % 18446744073709551616 : Nat) : Int) 0 (by omega) (by omega) (by omega)
         obtain ⟨r, hr2⟩ : ∃ r, r = U % 2251799813685248 := ⟨_, rfl⟩
         obtain ⟨d, hd⟩ : ∃ d, d = U / 2251799813685248 := ⟨_, rfl⟩
         obtain ⟨x1, hx1⟩ : ∃ x1, x1 = f 1 + d := ⟨_, rfl⟩
         rw [← hr2, ← hd, ← hx1] at hlim hval
         obtain ⟨l, hl⟩ : ∃ l : Nat, l = U % 18446744073709551616 := ⟨_, rfl⟩
         obtain ⟨h, hh⟩ : ∃ h : Nat, h = U / 18446744073709551616 := ⟨_, rfl⟩
         have e1 : s1 = (l : Int) := by omega
         subst e1
         have hand := and51 l (by omega)
         rw [show l % 2251799813685248 = r from by omega] at hand
         obtain ⟨m, hm⟩ : ∃ m, m = l / 2251799813685248 := ⟨_, rfl⟩
         have hmI : (l : Int) / 2251799813685248 = (m : Int) := by omega
         have hho : IntKind.u64.wrap (((c * 19 / 18446744073709551616 : Nat) : Int) + o1) = (h : Int) := by rw [IntKind.wrap_u64]; omega
         obtain ⟨n, hn⟩ : ∃ n, n = h * 8192 := ⟨_, rfl⟩
         have hnI : IntKind.u64.wrap ((h : Int) * 8192) = (n : Int) := by rw [IntKind.wrap_u64]; omega
         have hor : bits .or .u64 (m : Int) (n : Int) = (d : Int) := by
           rw [u64_or_nat _ _ (by omega) (by omega), Nat.or_comm, nat_join 13 n m (by omega) (by omega)]; omega
         have hxI : IntKind.u64.wrap (((f 1 : Nat) : Int) + (d : Int)) = (x1 : Int) := by rw [IntKind.wrap_u64]; omega
         generalize ((c * 19 / 18446744073709551616 : Nat) : Int) = ph at hmul hho
         generalize ((c * 19 % 18446744073709551616 : Nat) : Int) = pl at hmul r1
         generalize f 0 = y0 at co r1
         generalize f 1 = y1 at co1 hxI
         obtain ⟨W6, hW6⟩ : ∃ W, W = (wr.setCell ⟨bo, 0, none⟩ (.int .u64 (r : Int))).setCell ⟨bo, 1, none⟩ (.int .u64 (x1 : Int)) := ⟨_, rfl⟩
         have q1 : W6.heap[bo]? = some (.cells (ecell (upd (upd f 0 r) 1 x1)) 56 (0, 0)) := by
           rw [hW6, heap_setCell_same _ _ _ _ _ _ (heap_setCell_same _ _ _ _ _ _ ho), HSET.out r _ rfl, ecell_set _ 1 (by omega) x1 _ rfl]
         have q2 : W6.heap[w.heap.size + 2]? = some (.cells (ecell f0) 56 (0, 0)) := by
           rw [hW6, heap_setCell_other _ _ _ _ (by simp; omega), heap_setCell_other _ _ _ _ (by simp; omega)]; exact hr
         have q3 : Below w.heap.size w W6 := by rw [hW6]; exact (hb.setCell (by simp; omega) _).setCell (by simp; omega) _
         have Q1 := Box.mk q1; have Q2 := Box.mk q2; have Q3 := Box.mk q3; have HLIM := Box.mk hlim; have HVAL := Box.mk hval; have HMUL := Box.mk hmul
         clear q1 q2 q3 hlim hval hmul ho hr hhi hlo hb hch hc l0 l1 hU b1 k1 h1 hr2 hd hx1 hl hh hm hn
         go_wp2_with fail
         refine (HMUL.out _).mono ?_
         rintro e w2 ⟨rfl, rfl⟩
         go_upto_region 31 with (fail)
         rw [← hW6]
         clear hW6 co co1 zo zo1
         generalize hg : upd (upd f 0 r) 1 x1 = g at Q1 HLIM HVAL
         clear hg
         go_wp2_with ((with_reducible refine wpList_loadE rfl (.tmp 14) rfl bo g Q1.out ?_ ?_); rfl)
         refine (carried_any 0 g HLIM.out _).mono ?_
         rintro e w3 ⟨h3, rfl, hl3, hv3, hb3⟩
         have q4 : w3.heap[w.heap.size + 2]? = some (.cells (ecell f0) 56 (0, 0)) := (hb3.block _ (Array.getElem?_eq_some_iff.1 Q2.out).1).trans Q2.out
         have Q4 := Box.mk q4; have HL3 := Box.mk hl3; have HV3 := Box.mk ((hv3.trans HVAL.out).trans HALL.out); have HB3 := Box.mk (Q3.out.trans (hb3.mono Q3.out.size))
         clear q4 hl3 hv3 hb3
         go_wp2_with ((with_reducible refine wpList_storeE rfl (.tmp 4) (.tmp 133) rfl (w.heap.size + 2) h3 f0 Q4.out ?_ ?_ ?_); rfl; rfl)
         go_frame
         refine bodyPost_ret (results_cell_row (p := 4) (ty := 56) rfl _ _ (w.heap.size + 2) 56 (ecell h3) (0, 0) _ rfl (setRow_heap _ _ _ _ _ _ Q4.out) Tryz.underlying56 rfl (by kernel_rfl)) rfl ⟨h3, rfl, HL3.out, HV3.out, ?_⟩
         exact below_setRow HB3.out (by omega) _
end Go.Proofs.YtafhncpaoolljaaGreat.Fe
