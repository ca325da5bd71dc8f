/- The flash: which bits a call may set or clear: plain laws. -/
import Derived.Test.YtaeomiedmjedgaaFlashK
namespace Go.Proofs.Ytaeomiedmjedgaa
set_option linter.unusedVariables false
open Go Go.RowKit

/-- Outside of [f, t) no bit is set, within none is cleared. -/
structure Bits (was now : List UInt8) (f t : Nat) : Prop where
  len : now.length = was.length
  out : ∀ (k : Nat) (o n : UInt8), was[k]? = some o → now[k]? = some n → ¬ (f ≤ k ∧ k < t) → n &&& ~~~o = 0
  in_ : ∀ (k : Nat) (o n : UInt8), was[k]? = some o → now[k]? = some n → f ≤ k ∧ k < t → o &&& ~~~n = 0
theorem Bits.same (b : List UInt8) : Bits b b 0 0 :=
  ⟨rfl, fun k o n h1 h2 _ => by rw [h1] at h2; cases h2; exact bit6 o, fun k o n _ _ h => by omega⟩
theorem Bits.prog (b : List UInt8) (A : Nat) (l : List UInt8) (g : Bool) (keep : Int) (mask : UInt8) : Bits b (progBytes b A l g keep mask) 0 0 := by
  refine ⟨progBytes_length _ _ _ _ _ _, fun k o n h1 h2 _ => ?_, fun k o n _ _ h => by omega⟩
  rw [progBytes_at, h1, Option.map_some] at h2
  cases h2
  split
  · split
    · simp only [progByte]
      split
      · exact bit5 _ _
      · split
        · exact bit1 _ _ _
        · exact bit6 _
    · exact bit6 _
  · exact bit6 _
theorem Bits.erase (b : List UInt8) (K : Nat) (g : Bool) (keep : Int) (mask : UInt8) : Bits b (eraseUpto b (512 * K) 512 g keep mask) (512 * K) (512 * K + 512) := by
  refine ⟨eraseUpto_length _ _ _ _ _ _, fun k o n h1 h2 h => ?_, fun k o n h1 h2 h => ?_⟩
  · rw [eraseUpto_at, h1, Option.map_some, if_neg h] at h2
    cases h2; exact bit6 _
  · rw [eraseUpto_at, h1, Option.map_some, if_pos h] at h2
    cases h2
    simp only [eraseByte]
    split
    · exact bit4 _
    · split
      · exact bit3 _ _
      · exact bit6 _
theorem Bits.in0 {was now : List UInt8} (K : Nat) (h : Bits was now 0 0) (he : now = was) : Bits was now (512 * K) (512 * K + 512) :=
  ⟨h.len, fun k o n h1 h2 _ => h.out k o n h1 h2 (by omega), fun k o n h1 h2 _ => by subst he; rw [h1] at h2; cases h2; exact bit6 o⟩
theorem FS.program_bits (s : FS) (at_ : Int) (l : List UInt8) : Bits s.b (s.program at_ l).1.b 0 0 := by
  unfold FS.program
  split
  · exact Bits.same _
  · split
    · exact Bits.same _
    · split
      · exact Bits.same _
      · split
        · exact Bits.same _
        · exact Bits.prog _ _ _ _ _ _
/-- Erase: either nothing was done, or it is a block's. -/
theorem FS.erase_bits (s : FS) (block : Int) :
    ((s.erase block).2 = 111 → Bits s.b (s.erase block).1.b 0 0) ∧ (¬ (0 ≤ block ∧ block < s.n.length) → Bits s.b (s.erase block).1.b 0 0) ∧
    (0 ≤ block ∧ block < s.n.length → Bits s.b (s.erase block).1.b (512 * block.toNat) (512 * block.toNat + 512)) := by
  unfold FS.erase
  by_cases hd : s.dead = true
  · rw [if_pos hd]
    exact ⟨fun _ => Bits.same _, fun _ => Bits.same _, fun _ => Bits.in0 _ (Bits.same _) rfl⟩
  · rw [if_neg hd]
    by_cases hb : blkB s.n.length block = false
    · rw [if_pos hb]
      exact ⟨fun _ => Bits.same _, fun _ => Bits.same _, fun _ => Bits.in0 _ (Bits.same _) rfl⟩
    · rw [if_neg hb]
      have hb' : 0 ≤ block ∧ block < s.n.length := by unfold blkB at hb; simpa using hb
      refine ⟨fun h => ?_, fun h => absurd hb' h, fun _ => Bits.erase _ _ _ _ _⟩
      have h : toldI s.goes = 111 := h
      unfold toldI at h
      split at h <;> cases h
theorem FS.erase_ans (s : FS) (block : Int) : (s.erase block).2 = 111 ∨ (s.erase block).2 = 2 ∨ ((s.erase block).2 = 0 ∧ 0 ≤ block ∧ block < s.n.length) := by
  unfold FS.erase
  split
  · right; left; rfl
  · split
    · left; rfl
    · rename_i hb
      have hb' : 0 ≤ block ∧ block < s.n.length := by unfold blkB at hb; simpa using hb
      show toldI _ = 111 ∨ toldI _ = 2 ∨ (toldI _ = 0 ∧ _)
      unfold toldI
      split
      · right; left; rfl
      · right; right; exact ⟨rfl, hb'⟩
theorem FS.erase_n (s : FS) (block : Int) : (s.erase block).1.n.length = s.n.length := by
  unfold FS.erase
  (repeat' split) <;> first | rfl | (show (s.bump _).length = _; simp [FS.bump])
theorem FS.arm_b (s : FS) (n k : Int) (m : UInt8) : (s.arm n k m).1.b = s.b := by
  unfold FS.arm
  (repeat' split) <;> rfl
/-- The same of strings. -/
theorem Bits.str {a b : List UInt8} {f t : Nat} (h : Bits a b f t) {was now : ByteArray} (h1 : was = ⟨a.toArray⟩) (h2 : now = ⟨b.toArray⟩) :
    now.size = was.size ∧ ∀ (k : Nat) (g1 : k < was.size) (g2 : k < now.size), (¬ (f ≤ k ∧ k < t) → now[k] &&& ~~~was[k] = 0) ∧ (f ≤ k ∧ k < t → was[k] &&& ~~~now[k] = 0) := by
  subst h1 h2
  refine ⟨by show b.toArray.size = a.toArray.size; simpa using h.len, fun k g1 g2 => ?_⟩
  have g1 : k < a.length := by have : k < a.toArray.size := g1; simpa using this
  have g2 : k < b.length := by have : k < b.toArray.size := g2; simpa using this
  exact ⟨h.out k a[k] b[k] (List.getElem?_eq_getElem _) (List.getElem?_eq_getElem _), h.in_ k a[k] b[k] (List.getElem?_eq_getElem _) (List.getElem?_eq_getElem _)⟩
theorem str_size {s : FS} (h : s.Ok) {x : ByteArray} (hx : x = ⟨s.b.toArray⟩) : x.size ≤ 131072 := by
  have h1 := h.len; have h2 := h.few
  rw [hx]; show s.b.toArray.size ≤ _; rw [List.size_toArray]; omega
end Go.Proofs.Ytaeomiedmjedgaa
