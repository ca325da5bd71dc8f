/- A part that is the whole flash does what the flash does: plain laws. -/
import Derived.Test.YtaeomiedmjedgaaPartJ
namespace Go.Proofs.Ytaeomiedmjedgaa
set_option linter.unusedVariables false
open Go Go.RowKit

/-- What lies in one page is programmed alike; both answers are right or both are not. -/
theorem pwrite_whole {s : FS} {n : Nat} (hs : s.Still) (hb : s.b.length = 512 * n) (at_ : Int) (l : List UInt8) (h0 : 0 ≤ at_) (hp : at_ % 64 + l.length ≤ 64 ∨ 512 * (n : Int) < at_ + l.length) :
    (s.pwrite 0 n at_ l).1 = (s.program at_ l).1 ∧ (((s.pwrite 0 n at_ l).2 == 0) = ((s.program at_ l).2 == 0)) := by
  by_cases hin : inB n at_ l.length = true
  · have hin' := hin
    rw [inB_iff] at hin'
    unfold FS.pwrite
    rw [if_pos hin, show (512 * 0 + at_ : Int) = at_ by omega]
    by_cases hl : l = []
    · subst hl
      rw [FS.pw_nil]
      have : s.program at_ [] = (s, 0) := by
        unfold FS.program
        rw [if_neg (by rw [hs.dead]; decide), if_neg (by unfold onB; rw [decide_eq_false_iff_not]; simp only [List.length_nil] at hin' ⊢; omega), if_pos rfl]
      rw [this]
      exact ⟨rfl, rfl⟩
    · obtain ⟨k, hk⟩ : ∃ k, l.length = k + 1 := ⟨l.length - 1, by cases l with | nil => exact absurd rfl hl | cons a t => simp⟩
      rw [hk, FS.pw_step _ _ _ _ hl, show min l.length (64 - (at_ % 64).toNat) = l.length by omega, List.take_length, List.drop_length, FS.pw_nil]
      by_cases he : (s.program at_ l).2 ≠ 0
      · rw [if_pos he]; exact ⟨rfl, rfl⟩
      · rw [if_neg he]
        have : (s.program at_ l).2 = 0 := by simpa using he
        rw [this]; exact ⟨rfl, rfl⟩
  · have hin' : inB n at_ l.length = false := by simpa using hin
    have hio : ¬ (0 ≤ at_ ∧ 0 ≤ (l.length : Int) ∧ at_ + l.length ≤ 512 * (n : Int)) := fun h => hin ((inB_iff _ _ _).2 h)
    have : s.program at_ l = (s, 111) := by
      unfold FS.program
      rw [if_neg (by rw [hs.dead]; decide), if_pos (by unfold onB; rw [decide_eq_false_iff_not]; rw [hb]; omega)]
    unfold FS.pwrite
    rw [hin', this]
    exact ⟨rfl, rfl⟩
theorem perase_whole {s : FS} {n : Nat} (hs : s.Still) (hn : s.n.length = n) (k : Int) :
    (s.perase 0 n k).1 = (s.erase k).1 ∧ (((s.perase 0 n k).2 == 0) = ((s.erase k).2 == 0)) := by
  unfold FS.perase
  by_cases h : 0 ≤ k ∧ k < n
  · rw [if_pos h, Int.zero_add]; exact ⟨rfl, rfl⟩
  · rw [if_neg h]
    have : s.erase k = (s, 111) := by
      unfold FS.erase
      rw [if_neg (by rw [hs.dead]; decide), if_pos (by unfold blkB; rw [decide_eq_false_iff_not, hn]; exact h)]
    rw [this]; exact ⟨rfl, rfl⟩
theorem read_whole {s : FS} {n : Nat} (hs : s.Still) (hb : s.b.length = 512 * n) : preadV s 0 n (0 : Nat) (512 * n : Nat) = (⟨s.b.toArray⟩, 0) := by
  have hin : inB n (0 : Nat) (512 * n : Nat) = true := by rw [inB_iff]; omega
  unfold preadV
  rw [if_pos hin, if_neg (by rw [hs.dead]; decide), show (512 * 0 + ((0 : Nat) : Int)).toNat = 0 by omega, Int.toNat_natCast, List.drop_zero, List.take_of_length_le (by omega)]
theorem still_program {s : FS} (hs : s.Still) (at_ : Int) (l : List UInt8) : (s.program at_ l).1.Still := (hs.program at_ l).2.2.2
theorem still_erase' {s : FS} (hs : s.Still) (k : Int) : (s.erase k).1.Still := by
  unfold FS.erase
  (repeat' split) <;> first
    | exact hs
    | exact ⟨hs.step.1.armed, hs.step.1.dead⟩
theorem erase_len (s : FS) (k : Int) : (s.erase k).1.b.length = s.b.length := by
  unfold FS.erase
  (repeat' split) <;> first
    | rfl
    | exact eraseUpto_length _ _ _ _ _ _
theorem program_len (s : FS) (A : Int) (l : List UInt8) : (s.program A l).1.b.length = s.b.length := by
  unfold FS.program
  (repeat' split) <;> first
    | rfl
    | exact progBytes_length _ _ _ _ _ _
end Go.Proofs.Ytaeomiedmjedgaa
