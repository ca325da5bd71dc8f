/- Whatever is done through a part, nothing outside of it is another one: plain laws. -/
import Derived.Test.YtaeomiedmjedgaaPartI
namespace Go.Proofs.Ytaeomiedmjedgaa
set_option linter.unusedVariables false
open Go Go.RowKit

/-- Outside of f, t the bytes are what they were. -/
structure OutB (s s' : FS) (f t : Nat) : Prop where
  len : s'.b.length = s.b.length
  at_ : ∀ k, (k < f ∨ t ≤ k) → s'.b[k]? = s.b[k]?
theorem OutB.refl (s : FS) (f t : Nat) : OutB s s f t := ⟨rfl, fun _ _ => rfl⟩
theorem OutB.trans {a b c : FS} {f t : Nat} (h : OutB a b f t) (k : OutB b c f t) : OutB a c f t := ⟨k.len.trans h.len, fun i hi => (k.at_ i hi).trans (h.at_ i hi)⟩
theorem program_out (s : FS) (A : Int) (l : List UInt8) (f t : Nat) (h0 : (f : Int) ≤ A) (h1 : A + l.length ≤ t) : OutB s (s.program A l).1 f t := by
  unfold FS.program
  (repeat' split) <;> first
    | exact OutB.refl _ _ _
    | exact ⟨progBytes_length _ _ _ _ _ _, fun k hk => progBytes_get _ _ _ _ _ _ _ (by omega)⟩
theorem pw_out : ∀ (n : Nat) (s : FS) (A : Int) (l : List UInt8) (f t : Nat), (f : Int) ≤ A → A + l.length ≤ t → OutB s (FS.pw n s A l).1 f t
  | 0, s, A, l, f, t, _, _ => OutB.refl _ _ _
  | n + 1, s, A, l, f, t, h0, h1 => by
    by_cases hl : l = []
    · subst hl; rw [FS.pw_nil]; exact OutB.refl _ _ _
    · rw [FS.pw_step _ _ _ _ hl]
      obtain ⟨m, hm⟩ : ∃ m, m = min l.length (64 - (A % 64).toNat) := ⟨_, rfl⟩
      rw [← hm]
      have hll : (l.take m).length = m := by rw [List.length_take]; omega
      have hd : (l.drop m).length = l.length - m := List.length_drop ..
      have p1 := program_out s A (l.take m) f t h0 (by rw [hll]; omega)
      split
      · exact p1
      · exact p1.trans (pw_out n _ (A + m) (l.drop m) f t (by omega) (by rw [hd]; omega))
theorem pwrite_out (s : FS) (F B : Nat) (at_ : Int) (l : List UInt8) : OutB s (s.pwrite F B at_ l).1 (512 * F) (512 * F + 512 * B) := by
  unfold FS.pwrite
  split
  · rename_i h
    rw [inB_iff] at h
    exact pw_out _ _ _ _ _ _ (by omega) (by omega)
  · exact OutB.refl _ _ _
theorem eraseUpto_out (b : List UInt8) (base m : Nat) (gone : Bool) (keep : Int) (mask : UInt8) (k : Nat) (h : k < base ∨ base + m ≤ k) : (eraseUpto b base m gone keep mask)[k]? = b[k]? := by
  rw [eraseUpto_at]
  cases b[k]? with
  | none => rfl
  | some o => simp only [Option.map_some]; rw [if_neg (by omega)]
theorem perase_out (s : FS) (F B : Nat) (k : Int) : OutB s (s.perase F B k).1 (512 * F) (512 * F + 512 * B) := by
  unfold FS.perase
  split
  · unfold FS.erase
    (repeat' split) <;> first
      | exact OutB.refl _ _ _
      | exact ⟨eraseUpto_length _ _ _ _ _ _, fun j hj => eraseUpto_out _ _ _ _ _ _ _ (by omega)⟩
  · exact OutB.refl _ _ _
theorem arm_out (s : FS) (n keep : Int) (mask : UInt8) (f t : Nat) : OutB s (s.arm n keep mask).1 f t ∧ (s.arm n keep mask).1.n = s.n := by
  unfold FS.arm
  (repeat' split) <;> exact ⟨⟨rfl, fun _ _ => rfl⟩, rfl⟩
theorem back_out (s : FS) (f t : Nat) : OutB s s.back f t ∧ s.back.n = s.n := ⟨⟨rfl, fun _ _ => rfl⟩, rfl⟩
theorem bai {a b : ByteArray} (h : a.data.toList = b.data.toList) : a = b := by
  cases a; cases b
  exact congrArg ByteArray.mk (Array.toList_inj.1 h)
/-- Outside all is 0: as strings. -/
def Zo (s : FS) (f t : Nat) : Prop := ∀ k, (k < f ∨ t ≤ k) → k < s.b.length → s.b[k]? = some 0
theorem Zo.out {s s' : FS} {f t : Nat} (h : Zo s f t) (o : OutB s s' f t) : Zo s' f t := fun k hk hl => (o.at_ k hk).trans (h k hk (by rw [o.len] at hl; exact hl))
theorem Zo.lo {s : FS} {f t : Nat} (h : Zo s f t) (hf : f ≤ s.b.length) : ((⟨s.b.toArray⟩ : ByteArray).extract 0 f) = ⟨(List.replicate f 0).toArray⟩ := by
  apply bai
  simp only [ByteArray.data_extract, Array.toList_extract, List.extract_eq_take_drop, List.drop_zero, Nat.sub_zero]
  apply List.ext_getElem?
  intro k
  rw [List.getElem?_take, List.getElem?_replicate]
  by_cases hk : k < f
  · rw [if_pos hk, if_pos hk, h k (.inl hk) (by omega)]
  · rw [if_neg hk, if_neg hk]
theorem Zo.hi {s : FS} {f t : Nat} (h : Zo s f t) (ht : t ≤ s.b.length) : ((⟨s.b.toArray⟩ : ByteArray).extract t s.b.length) = ⟨(List.replicate (s.b.length - t) 0).toArray⟩ := by
  apply bai
  simp only [ByteArray.data_extract, Array.toList_extract, List.extract_eq_take_drop]
  apply List.ext_getElem?
  intro k
  rw [List.getElem?_take, List.getElem?_drop, List.getElem?_replicate]
  by_cases hk : k < s.b.length - t
  · rw [if_pos hk, if_pos hk, h (t + k) (.inr (by omega)) (by omega)]
  · rw [if_neg hk, if_neg hk]
end Go.Proofs.Ytaeomiedmjedgaa
