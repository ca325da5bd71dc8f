/- The scalar package: Mul. -/
import Derived.Test.YtafhncpaoolljaaGreatM15
import Derived.Deep.RegionWith
import Derived.Deep.DeepCutAuto
namespace Go.Proofs.YtafhncpaoolljaaGreat
set_option maxRecDepth 100000
set_option linter.unusedVariables false
open Go Go.RowKit
structure MulSt (w : World) (bx b2 bo X Y O : Nat) (wr : World) : Prop where
 x : wr.heap[bx]? = some (.cells (wcells X 8) 54 (0, 0))
 y : wr.heap[b2]? = some (.cells (wcells Y 8) 54 (0, 0))
 o : wr.heap[bo]? = some (.cells (wcells O 8) 54 (0, 0))
 nx : bx ≠ bo
 ny : b2 ≠ bo
 lo : w.heap.size ≤ bo
 below : Below w.heap.size w wr
theorem MulSt.set {w wr : World} {bx b2 bo X Y O : Nat} (h : MulSt w bx b2 bo X Y O wr) (j v : Nat) (hv : v < 18446744073709551616) :
   MulSt w bx b2 bo X Y (put O j v) (wr.setCell ⟨bo, j, none⟩ (.int .u64 (v : Int))) :=
 ⟨by rw [heap_setCell_other _ _ _ _ (by simpa using h.nx)]; exact h.x, by rw [heap_setCell_other _ _ _ _ (by simpa using h.ny)]; exact h.y,
   by rw [heap_setCell_same _ _ _ _ _ _ h.o, wcells_put _ _ _ _ hv], h.nx, h.ny, h.lo, h.below.setCell h.lo _⟩
set_option maxRecDepth 100000 in
set_option maxHeartbeats 1000000 in
theorem MulSt.drewN {w wr : World} {bx b2 bo X Y O : Nat} (h : MulSt w bx b2 bo X Y O wr) (n : Nat) : MulSt w bx b2 bo X Y O (wr.drewN n) :=
 ⟨h.x, h.y, h.o, h.nx, h.ny, h.lo, below_drewN h.below n⟩
set_option maxRecDepth 100000 in
theorem mul_any (a b : ByteArray) (w : World) :
   Calls Tryz.prog 19 #[.string a, .string b] w fun e w' => e = .returned (if a.size = 32 ∧ b.size = 32 then .tuple #[.string (sc (num a * num b)), .int .i64 0] else .tuple #[.string ⟨#[]⟩, .int .i64 50]) ∧ Below w.heap.size w w' := by
 by_cases ha : a.size = 32
 · by_cases hb : b.size = 32
   · rw [if_pos ⟨ha, hb⟩]
     have ha' : ((a.size : Int) != 32) = false := by simp; omega
     have hb' : ((b.size : Int) != 32) = false := by simp; omega
     have HA := Box.mk ha; clear ha
     have HB := Box.mk hb; clear hb
     have hmk : ∀ w, (Instr.makeSlice 71 (.int .i64 8) (.int .i64 8)).run Tryz.prog w = .ok (.slice (some ⟨w.heap.size, 0, none⟩) 8 8) (w.alloc (.cells #[.int .u64 0, .int .u64 0, .int .u64 0, .int .u64 0, .int .u64 0, .int .u64 0, .int .u64 0, .int .u64 0] 54)) := fun _ => by kernel_rfl
     go_enter Tryz.func19, Tryz.ntmps19
     go_upto_region 3 with (fail)
     go_cut [6, 7] (fun x y wx => ∃ bx b2 : Nat, x = .slice (some ⟨bx, 0, none⟩) 4 8 ∧ y = .slice (some ⟨b2, 0, none⟩) 4 8 ∧ wx.heap[bx]? = some (.cells (wcells (num a) 8) 54 (0, 0)) ∧ wx.heap[b2]? = some (.cells (wcells (num b) 8) 54 (0, 0)) ∧ Below w.heap.size w wx)
     case first =>
       go_region_with (first
         | (go_at_call_of 47 (Value.string a); refine (words_any a (by have := HA.out; omega) _).mono ?_; rintro e w1 ⟨bx, hbx, rfl, hr1, hb1⟩)
         | (go_at_call_of 47 (Value.string b); refine (words_any b (by have := HB.out; omega) _).mono ?_; rintro e w2 ⟨b2, hb2, rfl, hr2, hb3⟩))
       all_goals
         go_wp2_with fail
         go_meet
         have hbl : bx < w1.heap.size := (Array.getElem?_eq_some_iff.1 hr1).1
         exact ⟨bx, b2, rfl, rfl, (hb3.block _ hbl).trans hr1, hr2, (Below.refl _ _).drew.trans (hb1.trans (hb3.mono hb1.size))⟩
     case rest =>
       obtain ⟨bx, b2, rfl, rfl, h1, h2, hbl⟩ := hcut
       have hst : MulSt w bx b2 wc.heap.size (num a) (num b) 0 (wc.alloc (.cells #[.int .u64 0, .int .u64 0, .int .u64 0, .int .u64 0, .int .u64 0, .int .u64 0, .int .u64 0, .int .u64 0] 54)) := by
         have l1 : bx < wc.heap.size := (Array.getElem?_eq_some_iff.1 h1).1
         have l2 : b2 < wc.heap.size := (Array.getElem?_eq_some_iff.1 h2).1
         exact ⟨by rw [heap_alloc_old _ _ l1]; exact h1, by rw [heap_alloc_old _ _ l2]; exact h2, by rw [heap_alloc_new]; simp [wcells, limb, List.range, List.range.loop], by omega, by omega, hbl.size, hbl.alloc hbl.size _⟩
       have hY := num_lt b 4 (by have := HB.out; omega)
       have hX := num_lt a 4 (by have := HA.out; omega)
       have HY := Box.mk hY; clear hY
       have HX := Box.mk hX; clear hX
       have HS := Box.mk hst; clear hst
       clear h1 h2 hbl
       generalize hXe : num a = X at HX HS
       generalize hYe : num b = Y at HY HS
       have EX := Box.mk hXe; clear hXe
       have EY := Box.mk hYe; clear hYe
       generalize hbo : wc.heap.size = bo at HS
       go_wp2_with fail
       clear hbo
       go_loopw [32] (fun i wr => ∃ k : Nat, k ≤ 4 ∧ i = .int .i64 k ∧ MulSt w bx b2 bo X Y (X % 2 ^ (64 * k) * Y) wr) (fun i _ => 4 - (intOf i).toNat)
       case atStart => exact ⟨0, by omega, rfl, by simpa [Nat.mod_one] using HS.out⟩
       case round =>
         clear HS
         obtain ⟨i, hi, rfl, hs⟩ := hrel
         have HS := Box.mk hs; clear hs
         by_cases hlt : i < 4
         · go_wp2_with fail
           go_loopw [10, 37] (fun z j wr => ∃ (k : Nat) (q : Int) (O : Nat), k ≤ 4 ∧ j = .int .i64 k ∧ z = .int .u64 q ∧ (0 ≤ q ∧ q < 18446744073709551616) ∧ MulSt w bx b2 bo X Y O wr ∧
             O < 2 ^ (64 * (i + 4)) ∧ O + q.toNat * 2 ^ (64 * (i + k)) = X % 2 ^ (64 * i) * Y + X / 2 ^ (64 * i) % 18446744073709551616 * (Y % 2 ^ (64 * k)) * 2 ^ (64 * i)) (fun _ j _ => 4 - (intOf j).toNat)
           case atStart => exact ⟨0, 0, _, by omega, rfl, rfl, by omega, HS.out, mul_lt HY.out, by simp [Nat.mod_one]⟩
           case round =>
             clear HS
             obtain ⟨k, q, O, hk, rfl, rfl, hq, hs, hOl, hOe⟩ := hrel
             have HS := Box.mk hs; clear hs
             have HOL := Box.mk hOl; clear hOl
             have HOE := Box.mk hOe; clear hOe
             by_cases hkt : k < 4
             · have bx1 := limb_bd X i; have by1 := limb_bd Y k; have bo1 := limb_bd O (i + k)
               obtain ⟨h, l, hmul, bh, bl, em⟩ := mul64_ex (limb X i) (limb Y k) bx1 by1
               have A := add64_ex Tryz.prog 49 _ Tryz.func49 (by kernel_rfl) (by kernel_rfl) (by kernel_rfl) (by kernel_rfl)
               obtain ⟨l1, c1, run1, bl1, bc1, ea1⟩ := A l q 0 bl hq (by omega)
               obtain ⟨v, c2, run2, bv, bc2, ea2⟩ := A (limb O (i + k)) l1 0 bo1 bl1 (by omega)
               obtain ⟨n1, n2, en⟩ := mul_step bx1 by1 hq bo1 bv bl1 em ea1 ea2
               have HEN := Box.mk en; clear en em ea1 ea2 A
               have x1 : wr.cell? ⟨bx, i, none⟩ = some (.int .u64 (limb X i)) := by rw [cell_of_row _ _ _ _ _ _ HS.out.x]; exact wcells_get _ _ _ (by omega)
               have x2 : wr.cell? ⟨b2, k, none⟩ = some (.int .u64 (limb Y k)) := by rw [cell_of_row _ _ _ _ _ _ HS.out.y]; exact wcells_get _ _ _ (by omega)
               have x3 : wr.cell? ⟨bo, i + k, none⟩ = some (.int .u64 (limb O (i + k))) := by rw [cell_of_row _ _ _ _ _ _ HS.out.o]; exact wcells_get _ _ _ (by omega)
               have f3 : wr.frozen? ⟨bo, i + k, none⟩ = false := frozen_of_row _ _ _ _ _ HS.out.o
               have HM := Box.mk hmul; clear hmul
               go_wp2_with fail
               go_quiet ((go_at_call 48; exact Calls.quiet_of_same (HM.out _)))
               go_wp2
               have hst := (HS.out.drewN nq).set (i + k) v.toNat (by omega)
               rw [Int.toNat_of_nonneg bv.1] at hst
               refine ⟨⟨k + 1, h + c1 + c2, put O (i + k) v.toNat, by omega, by go_num, rfl, by omega, hst, put_lt _ _ _ _ HOL.out (by omega) (by omega), ?_⟩, by simp [intOf]; omega⟩
               refine mul_inner HOE.out ?_
               have e := HEN.out
               rw [limb_toNat, limb_toNat, limb_toNat] at e
               have e2 : X / 2 ^ (64 * i) % 18446744073709551616 * (Y / 2 ^ (64 * k) % 18446744073709551616) = ((((X / 2 ^ (64 * i) % 18446744073709551616 : Nat) : Int) * ((Y / 2 ^ (64 * k) % 18446744073709551616 : Nat) : Int))).toNat := by
                 rw [← Int.natCast_mul, Int.toNat_natCast]
               rw [e2]
               have e3 : 0 ≤ ((X / 2 ^ (64 * i) % 18446744073709551616 : Nat) : Int) * ((Y / 2 ^ (64 * k) % 18446744073709551616 : Nat) : Int) := Int.mul_nonneg (by omega) (by omega)
               generalize ((X / 2 ^ (64 * i) % 18446744073709551616 : Nat) : Int) * ((Y / 2 ^ (64 * k) % 18446744073709551616 : Nat) : Int) = p at e e3 ⊢
               omega
             · have hk4 : k = 4 := by omega
               subst hk4
               have x3 : wr.cell? ⟨bo, i + 4, none⟩ = some (.int .u64 (limb O (i + 4))) := by rw [cell_of_row _ _ _ _ _ _ HS.out.o]; exact wcells_get _ _ _ (by omega)
               have f3 : wr.frozen? ⟨bo, i + 4, none⟩ = false := frozen_of_row _ _ _ _ _ HS.out.o
               go_wp2
               have hst := HS.out.set (i + 4) q.toNat (by omega)
               rw [Int.toNat_of_nonneg hq.1, mul_outer HY.out HOL.out HOE.out] at hst
               exact ⟨⟨i + 1, by omega, by go_num, hst⟩, by simp [intOf]; omega⟩
         · have hi4 : i = 4 := by omega
           subst hi4
           have hlt8 : Box (InWords (X * Y) 8) := ⟨InWords.mul (k := 4) HX.out HY.out⟩
           have hrow : Box (wr.heap[bo]? = some (.cells (wcells (X * Y) 8) 54 (0, 0))) := Box.mk <| by
             have := HS.out.o; rwa [Nat.mod_eq_of_lt HX.out] at this
           have hbel := HS.out.below
           go_wp2_with fail
           refine (mod_any (X * Y) 8 bo _ (by omega) hlt8.out hrow.out).mono ?_
           rintro e w2 ⟨rfl, hb2⟩
           go_wp2_with fail
           refine (bytes_any _ _).mono ?_
           rintro e w3 ⟨rfl, hb3⟩
           go_wp2
           go_ret2
           exact ⟨by rw [EX.out, EY.out]; rfl, hbel.trans ((hb2.mono hbel.size).trans (hb3.mono (Nat.le_trans hbel.size hb2.size)))⟩
   · rw [if_neg (fun h => hb h.2)]
     have ha' : ((a.size : Int) != 32) = false := by simp; omega
     have hb' : ((b.size : Int) != 32) = true := by simp; omega
     have HA := Box.mk ha; clear ha
     have HB := Box.mk hb; clear hb
     go_enter Tryz.func19, Tryz.ntmps19
     go_wp2
     go_ret2
     exact ⟨rfl, Below.refl _ _⟩
 · rw [if_neg (fun h => ha h.1)]
   have ha' : ((a.size : Int) != 32) = true := by simp; omega
   have HA := Box.mk ha; clear ha
   go_enter Tryz.func19, Tryz.ntmps19
   go_wp2
   go_ret2
   exact ⟨rfl, Below.refl _ _⟩
end Go.Proofs.YtafhncpaoolljaaGreat
