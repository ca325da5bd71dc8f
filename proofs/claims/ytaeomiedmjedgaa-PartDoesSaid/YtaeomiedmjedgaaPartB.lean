/- A part of a flash: erase, count, dead, clone, clean, new. -/
import Derived.Test.YtaeomiedmjedgaaPartA
import Derived.Deep.DeepCutAuto
namespace Go.Proofs.Ytaeomiedmjedgaa
set_option linter.unusedVariables false
open Go Go.RowKit

/-- Erase through a part. -/
def FS.perase (s : FS) (F B : Int) (k : Int) : FS × Int := if 0 ≤ k ∧ k < B then s.erase (F + k) else (s, 121)
set_option maxHeartbeats 1000000 in
theorem perase_any (q p bb cb : Nat) (F B : Int) (s : FS) (k : Int) (w : World) (hf : Fl 75 w p bb cb s) (hok : s.Ok) (h : Pa w q p F B) (hi : In s.n.length F B) :
    Calls Try.prog 16 #[.pointer (some ⟨q, 0, none⟩), .int .i64 k] w fun e w' => e = .returned (.int .i64 (s.perase F B k).2) ∧ Fl 75 w' p bb cb (s.perase F B k).1 ∧ Upd [p, bb, cb] w w' := by
  obtain ⟨c0, c1, c2⟩ := h.cells
  have HF := Box.mk hf
  by_cases g0 : k < 0
  · have g0' : decide (k < 0) = true := by simpa using g0
    have E : Box (s.perase F B k = (s, 121)) := ⟨by unfold FS.perase; rw [if_neg (by omega)]⟩
    obtain ⟨V, hV⟩ : ∃ V, V = s.perase F B k := ⟨_, rfl⟩
    rw [← hV] at E ⊢
    obtain ⟨rfl⟩ := E
    clear hV c0 c1 hi h hok hf g0
    go_enter Try.func16, Try.ntmps16
    go_wp2
    go_ret
    exact ⟨rfl, HF.out, Upd.refl _ _⟩
  · have g0' : decide (k < 0) = false := by simpa using g0
    by_cases g1 : k < B
    · have g1' : decide (B ≤ k) = false := by simpa using g1
      have hw : IntKind.i64.wrap (F + k) = F + k := by rw [IntKind.wrap_i64]; have := hi.lo; have := hi.hi; have := hi.few; omega
      have E : Box (s.perase F B k = s.erase (F + k)) := ⟨by unfold FS.perase; rw [if_pos (by omega)]⟩
      have ER := Box.mk (fun w h => erase_any p bb cb s (F + k) w h hok)
      rw [← E.out] at ER
      generalize s.perase F B k = V at ER ⊢
      clear E hi h hok hf g0 g1
      go_enter Try.func16, Try.ntmps16
      go_wp2
      go_still_tail 11, (by kernel_rfl)
      change wpList _ _ _ _ _ w.drew
      go_wp2_with fail
      refine (ER.out _ (HF.out.upd (Upd.refl [] _).drew (by simp) (by simp) (by simp))).mono ?_
      rintro e w1 ⟨rfl, hf1, hu1⟩
      have HF1 := Box.mk hf1; have HU := Box.mk ((Upd.refl [p, bb, cb] w).drew.trans hu1); clear hf1 hu1
      go_wp2
      go_ret
      exact ⟨rfl, HF1.out, HU.out⟩
    · have g1' : decide (B ≤ k) = true := by simpa using g1
      have E : Box (s.perase F B k = (s, 121)) := ⟨by unfold FS.perase; rw [if_neg (by omega)]⟩
      obtain ⟨V, hV⟩ : ∃ V, V = s.perase F B k := ⟨_, rfl⟩
      rw [← hV] at E ⊢
      obtain ⟨rfl⟩ := E
      clear hV c0 c1 hi h hok hf g0 g1
      go_enter Try.func16, Try.ntmps16
      go_wp2
      go_ret
      exact ⟨rfl, HF.out, Upd.refl _ _⟩
/-- How often a part's block was erased. -/
def FS.pcount (s : FS) (F B : Int) (k : Int) : Int := if 0 ≤ k ∧ k < B then s.count (F + k) else 0
set_option maxHeartbeats 1000000 in
theorem pcount_any (q p bb cb : Nat) (F B : Int) (s : FS) (k : Int) (w : World) (hf : Fl 75 w p bb cb s) (hok : s.Ok) (h : Pa w q p F B) (hi : In s.n.length F B) :
    Calls Try.prog 35 #[.pointer (some ⟨q, 0, none⟩), .int .i64 k] w fun e w' => e = .returned (.int .i64 (s.pcount F B k)) ∧ Upd [] w w' := by
  obtain ⟨c0, c1, c2⟩ := h.cells
  have HF := Box.mk hf
  by_cases g0 : k < 0
  · have g0' : decide (k < 0) = true := by simpa using g0
    have E : Box (s.pcount F B k = 0) := ⟨by unfold FS.pcount; rw [if_neg (by omega)]⟩
    clear c0 c1 hi h hok hf g0
    go_enter Try.func35, Try.ntmps35
    go_wp2
    go_ret
    exact ⟨by rw [E.out]; rfl, Upd.refl _ _⟩
  · have g0' : decide (k < 0) = false := by simpa using g0
    by_cases g1 : k < B
    · have g1' : decide (B ≤ k) = false := by simpa using g1
      have hw : IntKind.i64.wrap (F + k) = F + k := by rw [IntKind.wrap_i64]; have := hi.lo; have := hi.hi; have := hi.few; omega
      have E : Box (s.pcount F B k = s.count (F + k)) := ⟨by unfold FS.pcount; rw [if_pos (by omega)]⟩
      have ER := Box.mk (fun w h => count_any p bb cb s (F + k) w h hok)
      rw [← E.out] at ER
      generalize s.pcount F B k = V at ER ⊢
      clear E hi h hok hf g0 g1
      go_enter Try.func35, Try.ntmps35
      go_wp2
      go_still_tail 11, (by kernel_rfl)
      change wpList _ _ _ _ _ w.drew
      go_wp2_with fail
      refine (ER.out _ (HF.out.upd (Upd.refl [] _).drew (by simp) (by simp) (by simp))).mono ?_
      rintro e w1 ⟨rfl, rfl⟩
      go_wp2
      go_ret
      exact ⟨rfl, (Upd.refl [] w).drew⟩
    · have g1' : decide (B ≤ k) = true := by simpa using g1
      have E : Box (s.pcount F B k = 0) := ⟨by unfold FS.pcount; rw [if_neg (by omega)]⟩
      clear c0 c1 hi h hok hf g0 g1
      go_enter Try.func35, Try.ntmps35
      go_wp2
      go_ret
      exact ⟨by rw [E.out]; rfl, Upd.refl _ _⟩
theorem pdead_any (q p bb cb : Nat) (F B : Int) (s : FS) (w : World) (hf : Fl 75 w p bb cb s) (h : Pa w q p F B) :
    Calls Try.prog 37 #[.pointer (some ⟨q, 0, none⟩)] w fun e w' => e = .returned (.bool s.dead) ∧ w = w' := by
  obtain ⟨c0, c1, c2⟩ := h.cells
  have ER := Box.mk (fun w h => dead_any p bb cb s w h)
  have HF := Box.mk hf
  clear c1 c2 h hf
  go_enter Try.func37, Try.ntmps37
  go_wp2_with fail
  refine (ER.out _ HF.out).mono ?_
  rintro e w1 ⟨rfl, rfl⟩
  go_wp2
  go_ret
  exact ⟨rfl, rfl⟩
theorem pclone_any (q p p' : Nat) (F B : Int) (w : World) (h : Pa w q p F B) :
    Calls Try.prog 34 #[.pointer (some ⟨q, 0, none⟩), .pointer (some ⟨p', 0, none⟩)] w fun e w' => e = .returned (.pointer (some ⟨w.heap.size, 0, none⟩)) ∧ Pa w' w.heap.size p' F B ∧ Below w.heap.size w w' := by
  obtain ⟨c0, c1, c2⟩ := h.cells
  have R : Box (Pa (w.alloc (.cells #[.pointer (some ⟨p', 0, none⟩), .int .i64 F, .int .i64 B] 70)) w.heap.size p' F B) := ⟨⟨heap_alloc_new _ _⟩⟩
  clear c0 h
  go_enter Try.func34, Try.ntmps34
  go_wp2
  go_ret
  exact ⟨rfl, R.out, (Below.refl _ _).alloc (Nat.le_refl _) _⟩
/-- Are bytes of a part all 255? -/
def pcleanV (s : FS) (F B : Int) (at_ n : Int) : Bool × Int :=
  if (preadV s F B at_ n).2 = 0 then (((ffs (preadV s F B at_ n).1 : Nat) : Int) == (((preadV s F B at_ n).1.size : Nat) : Int), 0) else (false, (preadV s F B at_ n).2)
theorem pclean_any (q p bb cb : Nat) (F B : Int) (s : FS) (at_ n : Int) (w : World) (hf : Fl 75 w p bb cb s) (hok : s.Ok) (h : Pa w q p F B) (hi : In s.n.length F B) (ba : -9223372036854775808 ≤ at_ ∧ at_ ≤ 9223372036854775807) (bn : -9223372036854775808 ≤ n ∧ n ≤ 9223372036854775807) :
    Calls Try.prog 15 #[.pointer (some ⟨q, 0, none⟩), .int .i64 at_, .int .i64 n] w fun e w' => e = .returned (.tuple #[.bool (pcleanV s F B at_ n).1, .int .i64 (pcleanV s F B at_ n).2]) ∧ w = w' := by
  have RD := Box.mk (pread_any q p bb cb F B s at_ n w hf hok h hi ba bn)
  unfold pcleanV
  generalize preadV s F B at_ n = V at RD ⊢
  obtain ⟨S, x⟩ := V
  dsimp only at RD ⊢
  clear ba bn hi h hok hf
  by_cases hx : x = 0
  · subst hx
    rw [if_pos rfl]
    go_enter Try.func15, Try.ntmps15
    go_wp2_with fail
    refine RD.out.mono ?_
    rintro e w1 ⟨rfl, rfl⟩
    go_wp2_with fail
    refine (count1_any S w).mono ?_
    rintro e w1 ⟨rfl, rfl⟩
    go_wp2
    go_ret2
    exact ⟨rfl, rfl⟩
  · have hxb : (x != 0) = true := by rw [bne_iff_ne]; exact hx
    rw [if_neg hx]
    clear hx
    go_enter Try.func15, Try.ntmps15
    go_wp2_with fail
    refine RD.out.mono ?_
    rintro e w1 ⟨rfl, rfl⟩
    go_wp2
    go_ret2
    exact ⟨rfl, rfl⟩
end Go.Proofs.Ytaeomiedmjedgaa
