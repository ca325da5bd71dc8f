/- What is written to erased bytes; a block erased: plain laws. -/
import Derived.Test.YtaeomiedmjedgaaPartG
import Derived.Test.YtaeomiedmjedgaaFlashI
namespace Go.Proofs.Ytaeomiedmjedgaa
set_option linter.unusedVariables false
open Go Go.RowKit

theorem and255 (c : UInt8) : (255 : UInt8) &&& c = c := by
  have : ∀ n : Fin 256, (255 : UInt8) &&& (UInt8.ofNat n.val) = UInt8.ofNat n.val := by decide +kernel
  have h := this ⟨c.toNat, c.toNat_lt⟩
  simpa using h
/-- So many bytes from A on are erased. -/
def Er (b : List UInt8) (A n : Nat) : Prop := ∀ k, A ≤ k → k < A + n → b[k]? = some 255
theorem prog_er (b : List UInt8) (A : Nat) (l : List UInt8) (h : Er b A l.length) (k : Nat) : (progBytes b A l false 0 0)[k]? = if A ≤ k ∧ k < A + l.length then l[k - A]? else b[k]? := by
  by_cases hk : A ≤ k ∧ k < A + l.length
  · rw [if_pos hk, progBytes_at, h k hk.1 hk.2, Option.map_some, if_pos hk.1]
    have hl : k - A < l.length := by omega
    rw [List.getElem?_eq_getElem hl]
    simp only [progByte, true_or, if_true, and255]
  · rw [if_neg hk, progBytes_get _ _ _ _ _ _ _ (by omega)]
theorem still_go {s : FS} (h : s.Still) (A : Nat) (l : List UInt8) (hl : l ≠ []) (hA : A + l.length ≤ s.b.length) (hp : (A : Int) / 64 = ((A : Int) + l.length - 1) / 64) :
    (s.program A l).2 = 0 ∧ (s.program A l).1.b = progBytes s.b A l false 0 0 ∧ (s.program A l).1.n = s.n ∧ (s.program A l).1.Still := by
  obtain ⟨h1, h2, h3, h4⟩ := h.program A l
  have ho : onB s.b.length A l.length = true := by unfold onB; rw [decide_eq_true_iff]; omega
  refine ⟨?_, ?_, h3, h4⟩
  · rw [h1]; unfold ansP; rw [if_neg (by simp [ho]), if_neg hl, if_neg (by simpa using hp)]
  · rw [h2]; unfold progS actP
    rw [if_neg (by simp [ho] : ¬ onB s.b.length A l.length = false), if_neg hl, if_neg (by simpa using hp : ¬ (A : Int) / 64 ≠ ((A : Int) + l.length - 1) / 64)]
    rfl
structure Wrote (s : FS) (A : Nat) (l : List UInt8) (r : FS × Int) : Prop where
  ok : r.2 = 0
  still : r.1.Still
  n : r.1.n = s.n
  len : r.1.b.length = s.b.length
  at_ : ∀ k, r.1.b[k]? = if A ≤ k ∧ k < A + l.length then l[k - A]? else s.b[k]?
theorem pw_erased : ∀ (f : Nat) (s : FS) (A : Nat) (l : List UInt8), s.Still → l.length ≤ f → A + l.length ≤ s.b.length → Er s.b A l.length → Wrote s A l (FS.pw f s A l)
  | 0, s, A, l, hs, hf, hA, he => by
    obtain rfl : l = [] := List.eq_nil_of_length_eq_zero (by omega)
    exact ⟨rfl, hs, rfl, rfl, fun k => by rw [if_neg (by simp only [List.length_nil]; omega)]; rfl⟩
  | f + 1, s, A, l, hs, hf, hA, he => by
    by_cases hl : l = []
    · subst hl
      rw [FS.pw_nil]
      exact ⟨rfl, hs, rfl, rfl, fun k => by rw [if_neg (by simp only [List.length_nil]; omega)]⟩
    · have hl1 : 1 ≤ l.length := by cases l with | nil => exact absurd rfl hl | cons a t => simp
      rw [FS.pw_step _ _ _ _ hl]
      obtain ⟨m, hm⟩ : ∃ m, m = min l.length (64 - ((A : Int) % 64).toNat) := ⟨_, rfl⟩
      rw [← hm]
      have hmod : ((A : Int) % 64).toNat = A % 64 := by omega
      rw [hmod] at hm
      have hm1 : 1 ≤ m ∧ m ≤ l.length ∧ A % 64 + m ≤ 64 := by omega
      have hll : (l.take m).length = m := by rw [List.length_take]; omega
      obtain ⟨g1, g2, g3, g4⟩ := still_go hs A (l.take m) (fun h => by rw [h] at hll; simp at hll; omega) (by rw [hll]; omega) (by rw [hll]; omega)
      rw [if_neg (by simp [g1])]
      have e1 : Er s.b A (l.take m).length := fun k h1 h2 => he k h1 (by rw [hll] at h2; omega)
      have hat := prog_er s.b A (l.take m) e1
      have hA' : ((A : Int) + (m : Nat)) = ((A + m : Nat) : Int) := by omega
      rw [hA']
      have hlen : (s.program A (l.take m)).1.b.length = s.b.length := by rw [g2, progBytes_length]
      have hd : (l.drop m).length = l.length - m := List.length_drop ..
      have ih := pw_erased f (s.program A (l.take m)).1 (A + m) (l.drop m) g4 (by rw [hd]; omega) (by rw [hlen, hd]; omega) (fun k h1 h2 => by
        rw [g2, hat k, if_neg (by rw [hll]; omega)]
        exact he k (by omega) (by rw [hd] at h2; omega))
      refine ⟨ih.ok, ih.still, ih.n.trans g3, ih.len.trans hlen, fun k => ?_⟩
      rw [ih.at_ k, g2, hat k, hll, hd]
      by_cases c1 : A ≤ k ∧ k < A + m
      · rw [if_neg (by omega), if_pos c1, if_pos (by omega), List.getElem?_take, if_pos (by omega)]
      · by_cases c2 : A + m ≤ k ∧ k < A + m + (l.length - m)
        · rw [if_pos c2, if_pos (by omega), List.getElem?_drop]; congr 1; omega
        · rw [if_neg c2, if_neg c1, if_neg (by omega)]
/-- A list of 255s alone, counted. -/
theorem ffs_all (l : List UInt8) (h : ∀ k, k < l.length → l[k]? = some 255) : ffs ⟨l.toArray⟩ = l.length := by
  have : l = List.replicate l.length 255 := by
    apply List.ext_getElem?
    intro k
    rw [List.getElem?_replicate]
    by_cases hk : k < l.length
    · rw [if_pos hk, h k hk]
    · rw [if_neg hk, List.getElem?_eq_none (by omega)]
  unfold ffs Lib.countByte
  show l.count 255 = _
  conv => lhs; rw [this]
  simp
/-- An erased range of a part is clean. -/
theorem clean_er {s : FS} {B : Int} (hs : s.Still) (A n : Nat) (hb : (s.b.length : Int) = 512 * B) (hA : A + n ≤ s.b.length) (he : Er s.b A n) : pcleanV s 0 B A n = (true, 0) := by
  have hin : inB B A n = true := by rw [inB_iff]; omega
  have hd : s.dead = false := hs.dead
  have e : preadV s 0 B A n = (⟨((s.b.drop A).take n).toArray⟩, 0) := by
    unfold preadV
    rw [if_pos hin, if_neg (by rw [hd]; decide), show (512 * 0 + (A : Int)).toNat = A by omega, Int.toNat_natCast]
  have hl : ((s.b.drop A).take n).length = n := by rw [List.length_take, List.length_drop]; omega
  have hf := ffs_all ((s.b.drop A).take n) (fun k hk => by
    rw [List.getElem?_take, if_pos (by omega), List.getElem?_drop]; exact he _ (by omega) (by omega))
  unfold pcleanV
  rw [e]
  simp only [if_true]
  rw [hf, show (⟨((s.b.drop A).take n).toArray⟩ : ByteArray).size = ((s.b.drop A).take n).length from rfl]
  simp
/-- A block of a still flash, erased. -/
theorem still_erase {s : FS} (h : s.Still) (k : Nat) (hk : k < s.n.length) :
    (s.erase k).2 = 0 ∧ (s.erase k).1.Still ∧ (s.erase k).1.n.length = s.n.length ∧ (s.erase k).1.b = eraseUpto s.b (512 * k) 512 false 0 0 := by
  obtain ⟨h1, h2⟩ := h.step
  have hb : blkB s.n.length k = true := by unfold blkB; rw [decide_eq_true_iff]; omega
  unfold FS.erase
  rw [if_neg (by rw [h.dead]; decide), if_neg (by simp [hb])]
  refine ⟨by rw [h2]; unfold toldI; rfl, ⟨h1.armed, h1.dead⟩, by simp only [FS.bump, List.length_set], ?_⟩
  simp only [h2, Int.toNat_natCast]
  exact fullErase_any _ _ _ _ _
theorem erase_er {b : List UInt8} {K : Nat} (h : Er b 0 (512 * K)) (hl : 512 * K + 512 ≤ b.length) : Er (eraseUpto b (512 * K) 512 false 0 0) 0 (512 * (K + 1)) := by
  intro k _ hk
  rw [eraseUpto_at]
  have hkl : k < b.length := by omega
  rw [List.getElem?_eq_getElem hkl]
  by_cases hc : 512 * K ≤ k ∧ k < 512 * K + 512
  · simp only [Option.map_some, if_pos hc, eraseByte, true_or, if_true]
  · have := h k (by omega) (by omega)
    rw [List.getElem?_eq_getElem hkl] at this
    simp only [Option.map_some, if_neg hc]
    exact this
theorem FS.pw_ok : ∀ (f : Nat) (s : FS) (A : Int) (l : List UInt8), s.Ok → (FS.pw f s A l).1.Ok ∧ (FS.pw f s A l).1.n.length = s.n.length
  | 0, s, A, l, h => ⟨h, rfl⟩
  | f + 1, s, A, l, h => by
    by_cases hl : l = []
    · subst hl; rw [FS.pw_nil]; exact ⟨h, rfl⟩
    · rw [FS.pw_step _ _ _ _ hl]
      split
      · exact ⟨FS.program_ok h _ _, FS.program_n _ _ _⟩
      · have := FS.pw_ok f (s.program A (l.take (min l.length (64 - (A % 64).toNat)))).1 (A + (min l.length (64 - (A % 64).toNat) : Nat)) (l.drop (min l.length (64 - (A % 64).toNat))) (FS.program_ok h _ _)
        exact ⟨this.1, this.2.trans (FS.program_n _ _ _)⟩
theorem FS.pwrite_ok {s : FS} (h : s.Ok) (F B at_ : Int) (l : List UInt8) : (s.pwrite F B at_ l).1.Ok ∧ (s.pwrite F B at_ l).1.n.length = s.n.length := by
  unfold FS.pwrite
  split
  · exact FS.pw_ok _ _ _ _ h
  · exact ⟨h, rfl⟩
theorem FS.erase_n (s : FS) (k : Int) : (s.erase k).1.n.length = s.n.length := by
  unfold FS.erase
  (repeat' split) <;> first | rfl | simp only [FS.bump, List.length_set]
theorem FS.perase_ok {s : FS} (h : s.Ok) (F B k : Int) : (s.perase F B k).1.Ok ∧ (s.perase F B k).1.n.length = s.n.length := by
  unfold FS.perase
  split
  · exact ⟨FS.erase_ok h _, FS.erase_n _ _⟩
  · exact ⟨h, rfl⟩
/-- What was written is read. -/
theorem read_back {s s' : FS} {B : Int} {A : Nat} {str : ByteArray} (hs : s'.Still) (hin : inB B A str.size = true)
    (h : ∀ k, s'.b[k]? = if A ≤ k ∧ k < A + str.size then str.data.toList[k - A]? else s.b[k]?) : preadV s' 0 B A str.size = (str, 0) := by
  have hl : (s'.b.drop A).take str.size = str.data.toList := by
    apply List.ext_getElem?
    intro k
    rw [List.getElem?_take, List.getElem?_drop]
    by_cases hk : k < str.size
    · rw [if_pos hk, h, if_pos (by omega)]; congr 1; omega
    · rw [if_neg hk, List.getElem?_eq_none (by simp; omega)]
  unfold preadV
  rw [if_pos hin, if_neg (by rw [hs.dead]; decide), show (512 * 0 + (A : Int)).toNat = A by omega, Int.toNat_natCast, hl]
end Go.Proofs.Ytaeomiedmjedgaa
