/- The calls that the document fixes, of a part. What is written to erased bytes; a block erased: plain laws. An image written page by page into a part: the states, and what a still flash keeps of it: plain laws. Numbers in words of 64 bits and in bytes, the lowest first. Nothing of the program. The package codes: Put, Get. Logs: the plain states. -/
import Derived.Test.YtjednaendedpdaaGreatM03
import Derived.Test.YtjednaendedpdaaGreatM02
import Derived.Laws.StructEq
import Derived.Test.YtjednaendedpdaaGreatM01
namespace Go.Proofs.YtjednaendedpdaaGreat
set_option maxRecDepth 100000
set_option linter.unusedVariables false
open Go Go.RowKit

theorem cellU {w w' : World} {S : List Nat} (hu : Upd S w w') {g j : Nat} {v : Value} (hg : g < w.heap.size) (hn : g ∉ S) (h : w.cell? ⟨g, j, none⟩ = some v) : w'.cell? ⟨g, j, none⟩ = some v :=
  (World.cell?_of_block (w := w) (hu.block g hg hn)).trans h
end Go.Proofs.YtjednaendedpdaaGreat
namespace Go.Proofs.YtjednaendedpdaaGreat
set_option maxRecDepth 100000
set_option linter.unusedVariables false
open Go Go.RowKit

theorem and255 (c : UInt8) : (255 : UInt8) &&& c = c := by
  have : ∀ n : Fin 256, (255 : UInt8) &&& (UInt8.ofNat n.val) = UInt8.ofNat n.val := by decide +kernel
  have h := this ⟨c.toNat, c.toNat_lt⟩
  simpa using h
/-- So many bytes from A on are erased. -/
def Er (b : List UInt8) (A n : Nat) : Prop := ∀ k, A ≤ k → k < A + n → b[k]? = some 255
theorem prog_er (b : List UInt8) (A : Nat) (l : List UInt8) (h : Er b A l.length) (k : Nat) : (progBytes b A l false 0 0)[k]? = if A ≤ k ∧ k < A + l.length then l[k - A]? else b[k]? := by
  by_cases hk : A ≤ k ∧ k < A + l.length
  · rw [if_pos hk, progBytes_at, h k hk.1 hk.2, Option.map_some, if_pos hk.1]
    have hl : k - A < l.length := by omega
    rw [List.getElem?_eq_getElem hl]
    simp only [progByte, true_or, if_true, and255]
  · rw [if_neg hk, progBytes_get _ _ _ _ _ _ _ (by omega)]
theorem still_go {s : FS} (h : s.Still) (A : Nat) (l : List UInt8) (hl : l ≠ []) (hA : A + l.length ≤ s.b.length) (hp : (A : Int) / 64 = ((A : Int) + l.length - 1) / 64) :
    (s.program A l).2 = 0 ∧ (s.program A l).1.b = progBytes s.b A l false 0 0 ∧ (s.program A l).1.n = s.n ∧ (s.program A l).1.Still := by
  obtain ⟨h1, h2, h3, h4⟩ := h.program A l
  have ho : onB s.b.length A l.length = true := by unfold onB; rw [decide_eq_true_iff]; omega
  refine ⟨?_, ?_, h3, h4⟩
  · rw [h1]; unfold ansP; rw [if_neg (by simp [ho]), if_neg hl, if_neg (by simpa using hp)]
  · rw [h2]; unfold progS actP
    rw [if_neg (by simp [ho] : ¬ onB s.b.length A l.length = false), if_neg hl, if_neg (by simpa using hp : ¬ (A : Int) / 64 ≠ ((A : Int) + l.length - 1) / 64)]
    rfl
structure Wrote (s : FS) (A : Nat) (l : List UInt8) (r : FS × Int) : Prop where
  ok : r.2 = 0
  still : r.1.Still
  n : r.1.n = s.n
  len : r.1.b.length = s.b.length
  at_ : ∀ k, r.1.b[k]? = if A ≤ k ∧ k < A + l.length then l[k - A]? else s.b[k]?
theorem pw_erased : ∀ (f : Nat) (s : FS) (A : Nat) (l : List UInt8), s.Still → l.length ≤ f → A + l.length ≤ s.b.length → Er s.b A l.length → Wrote s A l (FS.pw f s A l)
  | 0, s, A, l, hs, hf, hA, he => by
    obtain rfl : l = [] := List.eq_nil_of_length_eq_zero (by omega)
    exact ⟨rfl, hs, rfl, rfl, fun k => by rw [if_neg (by simp only [List.length_nil]; omega)]; rfl⟩
  | f + 1, s, A, l, hs, hf, hA, he => by
    by_cases hl : l = []
    · subst hl
      rw [FS.pw_nil]
      exact ⟨rfl, hs, rfl, rfl, fun k => by rw [if_neg (by simp only [List.length_nil]; omega)]⟩
    · have hl1 : 1 ≤ l.length := by cases l with | nil => exact absurd rfl hl | cons a t => simp
      rw [FS.pw_step _ _ _ _ hl]
      obtain ⟨m, hm⟩ : ∃ m, m = min l.length (64 - ((A : Int) % 64).toNat) := ⟨_, rfl⟩
      rw [← hm]
      have hmod : ((A : Int) % 64).toNat = A % 64 := by omega
      rw [hmod] at hm
      have hm1 : 1 ≤ m ∧ m ≤ l.length ∧ A % 64 + m ≤ 64 := by omega
      have hll : (l.take m).length = m := by rw [List.length_take]; omega
      obtain ⟨g1, g2, g3, g4⟩ := still_go hs A (l.take m) (fun h => by rw [h] at hll; simp at hll; omega) (by rw [hll]; omega) (by rw [hll]; omega)
      rw [if_neg (by simp [g1])]
      have e1 : Er s.b A (l.take m).length := fun k h1 h2 => he k h1 (by rw [hll] at h2; omega)
      have hat := prog_er s.b A (l.take m) e1
      have hA' : ((A : Int) + (m : Nat)) = ((A + m : Nat) : Int) := by omega
      rw [hA']
      have hlen : (s.program A (l.take m)).1.b.length = s.b.length := by rw [g2, progBytes_length]
      have hd : (l.drop m).length = l.length - m := List.length_drop ..
      have ih := pw_erased f (s.program A (l.take m)).1 (A + m) (l.drop m) g4 (by rw [hd]; omega) (by rw [hlen, hd]; omega) (fun k h1 h2 => by
        rw [g2, hat k, if_neg (by rw [hll]; omega)]
        exact he k (by omega) (by rw [hd] at h2; omega))
      refine ⟨ih.ok, ih.still, ih.n.trans g3, ih.len.trans hlen, fun k => ?_⟩
      rw [ih.at_ k, g2, hat k, hll, hd]
      by_cases c1 : A ≤ k ∧ k < A + m
      · rw [if_neg (by omega), if_pos c1, if_pos (by omega), List.getElem?_take, if_pos (by omega)]
      · by_cases c2 : A + m ≤ k ∧ k < A + m + (l.length - m)
        · rw [if_pos c2, if_pos (by omega), List.getElem?_drop]; congr 1; omega
        · rw [if_neg c2, if_neg c1, if_neg (by omega)]
/-- A list of 255s alone, counted. -/
theorem ffs_all (l : List UInt8) (h : ∀ k, k < l.length → l[k]? = some 255) : ffs ⟨l.toArray⟩ = l.length := by
  have : l = List.replicate l.length 255 := by
    apply List.ext_getElem?
    intro k
    rw [List.getElem?_replicate]
    by_cases hk : k < l.length
    · rw [if_pos hk, h k hk]
    · rw [if_neg hk, List.getElem?_eq_none (by omega)]
  unfold ffs Lib.countByte
  show l.count 255 = _
  conv => lhs; rw [this]
  simp
/-- An erased range of a part is clean. -/
theorem clean_er {s : FS} {B : Int} (hs : s.Still) (A n : Nat) (hb : (s.b.length : Int) = 512 * B) (hA : A + n ≤ s.b.length) (he : Er s.b A n) : pcleanV s 0 B A n = (true, 0) := by
  have hin : inB B A n = true := by rw [inB_iff]; omega
  have hd : s.dead = false := hs.dead
  have e : preadV s 0 B A n = (⟨((s.b.drop A).take n).toArray⟩, 0) := by
    unfold preadV
    rw [if_pos hin, if_neg (by rw [hd]; decide), show (512 * 0 + (A : Int)).toNat = A by omega, Int.toNat_natCast]
  have hl : ((s.b.drop A).take n).length = n := by rw [List.length_take, List.length_drop]; omega
  have hf := ffs_all ((s.b.drop A).take n) (fun k hk => by
    rw [List.getElem?_take, if_pos (by omega), List.getElem?_drop]; exact he _ (by omega) (by omega))
  unfold pcleanV
  rw [e]
  simp only [if_true]
  rw [hf, show (⟨((s.b.drop A).take n).toArray⟩ : ByteArray).size = ((s.b.drop A).take n).length from rfl]
  simp
/-- A block of a still flash, erased. -/
theorem still_erase {s : FS} (h : s.Still) (k : Nat) (hk : k < s.n.length) :
    (s.erase k).2 = 0 ∧ (s.erase k).1.Still ∧ (s.erase k).1.n.length = s.n.length ∧ (s.erase k).1.b = eraseUpto s.b (512 * k) 512 false 0 0 := by
  obtain ⟨h1, h2⟩ := h.step
  have hb : blkB s.n.length k = true := by unfold blkB; rw [decide_eq_true_iff]; omega
  unfold FS.erase
  rw [if_neg (by rw [h.dead]; decide), if_neg (by simp [hb])]
  refine ⟨by rw [h2]; unfold toldI; rfl, ⟨h1.armed, h1.dead⟩, by simp only [FS.bump, List.length_set], ?_⟩
  simp only [h2, Int.toNat_natCast]
  exact fullErase_any _ _ _ _ _
theorem erase_er {b : List UInt8} {K : Nat} (h : Er b 0 (512 * K)) (hl : 512 * K + 512 ≤ b.length) : Er (eraseUpto b (512 * K) 512 false 0 0) 0 (512 * (K + 1)) := by
  intro k _ hk
  rw [eraseUpto_at]
  have hkl : k < b.length := by omega
  rw [List.getElem?_eq_getElem hkl]
  by_cases hc : 512 * K ≤ k ∧ k < 512 * K + 512
  · simp only [Option.map_some, if_pos hc, eraseByte, true_or, if_true]
  · have := h k (by omega) (by omega)
    rw [List.getElem?_eq_getElem hkl] at this
    simp only [Option.map_some, if_neg hc]
    exact this
theorem FS.pw_ok : ∀ (f : Nat) (s : FS) (A : Int) (l : List UInt8), s.Ok → (FS.pw f s A l).1.Ok ∧ (FS.pw f s A l).1.n.length = s.n.length
  | 0, s, A, l, h => ⟨h, rfl⟩
  | f + 1, s, A, l, h => by
    by_cases hl : l = []
    · subst hl; rw [FS.pw_nil]; exact ⟨h, rfl⟩
    · rw [FS.pw_step _ _ _ _ hl]
      split
      · exact ⟨FS.program_ok h _ _, FS.program_n _ _ _⟩
      · have := FS.pw_ok f (s.program A (l.take (min l.length (64 - (A % 64).toNat)))).1 (A + (min l.length (64 - (A % 64).toNat) : Nat)) (l.drop (min l.length (64 - (A % 64).toNat))) (FS.program_ok h _ _)
        exact ⟨this.1, this.2.trans (FS.program_n _ _ _)⟩
theorem FS.pwrite_ok {s : FS} (h : s.Ok) (F B at_ : Int) (l : List UInt8) : (s.pwrite F B at_ l).1.Ok ∧ (s.pwrite F B at_ l).1.n.length = s.n.length := by
  unfold FS.pwrite
  split
  · exact FS.pw_ok _ _ _ _ h
  · exact ⟨h, rfl⟩
theorem FS.perase_ok {s : FS} (h : s.Ok) (F B k : Int) : (s.perase F B k).1.Ok ∧ (s.perase F B k).1.n.length = s.n.length := by
  unfold FS.perase
  split
  · exact ⟨FS.erase_ok h _, FS.erase_n _ _⟩
  · exact ⟨h, rfl⟩
/-- What was written is read. -/
theorem read_back {s s' : FS} {B : Int} {A : Nat} {str : ByteArray} (hs : s'.Still) (hin : inB B A str.size = true)
    (h : ∀ k, s'.b[k]? = if A ≤ k ∧ k < A + str.size then str.data.toList[k - A]? else s.b[k]?) : preadV s' 0 B A str.size = (str, 0) := by
  have hl : (s'.b.drop A).take str.size = str.data.toList := by
    apply List.ext_getElem?
    intro k
    rw [List.getElem?_take, List.getElem?_drop]
    by_cases hk : k < str.size
    · rw [if_pos hk, h, if_pos (by omega)]; congr 1; omega
    · rw [if_neg hk, List.getElem?_eq_none (by simp; omega)]
  unfold preadV
  rw [if_pos hin, if_neg (by rw [hs.dead]; decide), show (512 * 0 + (A : Int)).toNat = A by omega, Int.toNat_natCast, hl]
end Go.Proofs.YtjednaendedpdaaGreat
namespace Go.Proofs.YtjednaendedpdaaGreat
set_option maxRecDepth 100000
set_option linter.unusedVariables false
open Go Go.RowKit

/-- A part's block is erased, if it is not clean. -/
def FS.wclean (s : FS) (F B : Int) (k : Nat) : FS × Int :=
  if (pcleanV s F B (512 * k : Nat) 512).2 ≠ 0 then (s, (pcleanV s F B (512 * k : Nat) 512).2) else if (pcleanV s F B (512 * k : Nat) 512).1 = true then (s, 0) else s.perase F B k
/-- A page of an image is written: the first of a block erases it. -/
def FS.wpage (s : FS) (F B : Int) (made : Nat) (l : List UInt8) : FS × Int :=
  if made % 512 = 0 then (if (s.wclean F B (made / 512)).2 ≠ 0 then s.wclean F B (made / 512) else (s.wclean F B (made / 512)).1.pwrite F B made l) else s.pwrite F B made l
/-- So many pages from m on. -/
def FS.wto (F B : Int) (all : List UInt8) : Nat → FS → Nat → FS × Int × Nat
  | 0, s, m => (s, 0, m)
  | k + 1, s, m => if (s.wpage F B m ((all.drop m).take 64)).2 ≠ 0 then ((s.wpage F B m ((all.drop m).take 64)).1, (s.wpage F B m ((all.drop m).take 64)).2, m) else FS.wto F B all k (s.wpage F B m ((all.drop m).take 64)).1 (m + 64)

theorem FS.wclean_ok {s : FS} (h : s.Ok) (F B : Int) (k : Nat) : (s.wclean F B k).1.Ok ∧ (s.wclean F B k).1.n.length = s.n.length := by
  unfold FS.wclean
  split
  · exact ⟨h, rfl⟩
  · split
    · exact ⟨h, rfl⟩
    · exact FS.perase_ok h F B k
theorem FS.wpage_ok {s : FS} (h : s.Ok) (F B : Int) (m : Nat) (l : List UInt8) : (s.wpage F B m l).1.Ok ∧ (s.wpage F B m l).1.n.length = s.n.length := by
  unfold FS.wpage
  have hc := FS.wclean_ok h F B (m / 512)
  split
  · split
    · exact hc
    · have := FS.pwrite_ok hc.1 F B m l
      exact ⟨this.1, this.2.trans hc.2⟩
  · exact FS.pwrite_ok h F B m l
theorem FS.wto_ok (F B : Int) (all : List UInt8) : ∀ (k : Nat) (s : FS) (m : Nat), s.Ok → (FS.wto F B all k s m).1.Ok ∧ (FS.wto F B all k s m).1.n.length = s.n.length
  | 0, s, m, h => ⟨h, rfl⟩
  | k + 1, s, m, h => by
    have hp := FS.wpage_ok h F B m ((all.drop m).take 64)
    unfold FS.wto
    split
    · exact hp
    · have := FS.wto_ok F B all k (s.wpage F B m ((all.drop m).take 64)).1 (m + 64) hp.1
      exact ⟨this.1, this.2.trans hp.2⟩
/-- Behind pages that were written, the next ones. -/
theorem FS.wto_add (F B : Int) (all : List UInt8) : ∀ (k j : Nat) (s : FS) (m : Nat), FS.wto F B all (k + j) s m = if (FS.wto F B all k s m).2.1 ≠ 0 then FS.wto F B all k s m else FS.wto F B all j (FS.wto F B all k s m).1 (FS.wto F B all k s m).2.2
  | 0, j, s, m => by rw [Nat.zero_add]; simp [FS.wto]
  | k + 1, j, s, m => by
    rw [show k + 1 + j = (k + j) + 1 by omega, FS.wto]
    conv => rhs; rw [FS.wto]
    by_cases h : (s.wpage F B m ((all.drop m).take 64)).2 ≠ 0
    · simp only [if_pos h]
    · simp only [if_neg h]
      exact FS.wto_add F B all k j _ _
/-- Only the bytes that are written matter. -/
theorem FS.wto_more (F B : Int) (all l : List UInt8) : ∀ (k : Nat) (s : FS) (m : Nat), m + 64 * k ≤ all.length → FS.wto F B (all ++ l) k s m = FS.wto F B all k s m
  | 0, s, m, h => rfl
  | k + 1, s, m, h => by
    have e : ((all ++ l).drop m).take 64 = (all.drop m).take 64 := by
      rw [List.drop_append_of_le_length (by omega), List.take_append_of_le_length (by rw [List.length_drop]; omega)]
    rw [FS.wto, FS.wto, e]
    split
    · rfl
    · exact FS.wto_more F B all l k _ _ (by omega)

/-- What a part's bytes are that are told clean; that are not: the block is erased. -/
theorem ffs_lt (l : List UInt8) (h : ((ffs ⟨l.toArray⟩ : Nat) : Int) = (l.length : Nat)) : ∀ k, k < l.length → l[k]? = some 255 := by
  intro k hk
  have h : l.count 255 = l.length := by have h' : ffs ⟨l.toArray⟩ = l.length := by omega
                                        exact h'
  have := List.count_eq_length.1 h l[k] (List.getElem_mem hk)
  rw [List.getElem?_eq_getElem hk, ← this]
structure Cleaned (s : FS) (A : Nat) (r : FS × Int) : Prop where
  ok : r.2 = 0
  o : r.1.Ok
  still : r.1.Still
  n : r.1.n.length = s.n.length
  len : r.1.b.length = s.b.length
  er : Er r.1.b A 512
  out : ∀ k, (k < A ∨ A + 512 ≤ k) → r.1.b[k]? = s.b[k]?
theorem wclean_still {s : FS} (h : s.Still) (hok : s.Ok) (F B k : Nat) (hk : k < B) (hF : F + B ≤ s.n.length) : Cleaned s (512 * F + 512 * k) (s.wclean F B k) := by
  have hlen := hok.len
  have hin : inB B (512 * k : Nat) 512 = true := by rw [inB_iff]; omega
  have e : preadV s F B (512 * k : Nat) 512 = (⟨((s.b.drop (512 * F + 512 * k)).take 512).toArray⟩, 0) := by
    unfold preadV
    rw [if_pos hin, if_neg (by rw [h.dead]; decide), show (512 * (F : Int) + ((512 * k : Nat) : Int)).toNat = 512 * F + 512 * k by omega]
    rfl
  have hl : ((s.b.drop (512 * F + 512 * k)).take 512).length = 512 := by rw [List.length_take, List.length_drop]; omega
  have ev : pcleanV s F B (512 * k : Nat) 512 = (((ffs ⟨((s.b.drop (512 * F + 512 * k)).take 512).toArray⟩ : Nat) : Int) == ((((s.b.drop (512 * F + 512 * k)).take 512).length : Nat) : Int), 0) := by
    unfold pcleanV
    rw [e]
    simp only [if_true]
    rfl
  unfold FS.wclean
  rw [if_neg (by rw [ev]; simp), ev]
  dsimp only
  by_cases hc : ((ffs ⟨((s.b.drop (512 * F + 512 * k)).take 512).toArray⟩ : Nat) : Int) = ((((s.b.drop (512 * F + 512 * k)).take 512).length : Nat) : Int)
  · rw [if_pos (by rw [beq_iff_eq]; exact hc)]
    have ha := ffs_lt _ hc
    rw [hl] at ha
    refine ⟨rfl, hok, h, rfl, rfl, fun j h1 h2 => ?_, fun _ _ => rfl⟩
    have := ha (j - (512 * F + 512 * k)) (by omega)
    rw [List.getElem?_take, if_pos (by omega), List.getElem?_drop] at this
    rw [← this]; congr 1; omega
  · rw [if_neg (by rw [beq_iff_eq]; exact hc)]
    have hp : s.perase F B k = s.erase ((F + k : Nat) : Int) := by
      unfold FS.perase; rw [if_pos (by omega)]; congr 1
    obtain ⟨e1, e2, e3, e4⟩ := still_erase h (F + k) (by omega)
    rw [hp]
    have o := FS.erase_ok hok ((F + k : Nat) : Int)
    refine ⟨e1, o, e2, e3, by rw [e4, eraseUpto_length], fun j h1 h2 => ?_, fun j hj => ?_⟩
    · rw [e4, eraseUpto_at, List.getElem?_eq_getElem (by omega)]
      rw [Option.map_some, if_pos (by omega)]
      simp [eraseByte]
    · rw [e4, eraseUpto_at]
      cases s.b[j]? with
      | none => rfl
      | some v => rw [Option.map_some, if_neg (by omega)]

/-- So many bytes of an image lie in a part; the block in which it ends is erased behind them; nothing else is another one. -/
structure Laid (s0 s : FS) (F : Nat) (all : List UInt8) (m : Nat) : Prop where
  ok : s.Ok
  still : s.Still
  n : s.n.length = s0.n.length
  len : s.b.length = s0.b.length
  at_ : ∀ i, i < m → s.b[512 * F + i]? = all[i]?
  er : m % 512 ≠ 0 → Er s.b (512 * F + m) (512 - m % 512)
  lo : ∀ k, k < 512 * F → s.b[k]? = s0.b[k]?
  hi : ∀ k, 512 * F + 512 * ((m + 511) / 512) ≤ k → s.b[k]? = s0.b[k]?
theorem Laid.start {s : FS} (h : s.Still) (hok : s.Ok) (F : Nat) (all : List UInt8) : Laid s s F all 0 :=
  ⟨hok, h, rfl, rfl, fun i hi => by omega, fun h => by omega, fun _ _ => rfl, fun _ _ => rfl⟩
theorem Laid.more {s0 s : FS} {F m : Nat} {all : List UInt8} (h : Laid s0 s F all m) (l : List UInt8) (hm : m ≤ all.length) : Laid s0 s F (all ++ l) m :=
  ⟨h.ok, h.still, h.n, h.len, fun i hi => by rw [h.at_ i hi, List.getElem?_append_left (by omega)], h.er, h.lo, h.hi⟩
theorem Laid.page {s0 s : FS} {F m : Nat} {all : List UInt8} (h : Laid s0 s F all m) (B : Nat) (hF : F + B ≤ s0.n.length) (hm : m % 64 = 0) (l : List UInt8) (hl1 : 1 ≤ l.length) (hl2 : l.length ≤ 64) (hB : m + l.length ≤ 512 * B)
    (hat : ∀ j, j < l.length → l[j]? = all[m + j]?) : (s.wpage F B m l).2 = 0 ∧ Laid s0 (s.wpage F B m l).1 F all (m + l.length) := by
  have hlen := h.ok.len
  have hn := h.n
  -- the block is erased from m on
  obtain ⟨s1, hs1, e1, o1, st1, n1, len1, er1, at1, lo1, hi1⟩ : ∃ s1 : FS, (s.wpage F B m l = s1.pwrite F B m l) ∧ True ∧ s1.Ok ∧ s1.Still ∧ s1.n.length = s0.n.length ∧ s1.b.length = s0.b.length ∧ Er s1.b (512 * F + m) (512 - m % 512) ∧
      (∀ i, i < m → s1.b[512 * F + i]? = all[i]?) ∧ (∀ k, k < 512 * F → s1.b[k]? = s0.b[k]?) ∧ (∀ k, 512 * F + 512 * (m / 512 + 1) ≤ k → s1.b[k]? = s0.b[k]?) := by
    by_cases hb : m % 512 = 0
    · have c := wclean_still h.still h.ok F B (m / 512) (by omega) (by omega)
      refine ⟨(s.wclean F B (m / 512)).1, ?_, trivial, c.o, c.still, c.n.trans hn, c.len.trans h.len, ?_, fun i hi => ?_, fun k hk => ?_, fun k hk => ?_⟩
      · unfold FS.wpage; rw [if_pos hb, if_neg (by rw [c.ok]; simp)]
      · have := c.er
        rw [show 512 * (m / 512) = m by omega] at this
        rw [hb]; exact this
      · rw [c.out _ (by omega)]; exact h.at_ i hi
      · rw [c.out _ (by omega)]; exact h.lo k hk
      · rw [c.out _ (by omega)]; exact h.hi k (by omega)
    · refine ⟨s, ?_, trivial, h.ok, h.still, hn, h.len, h.er hb, h.at_, h.lo, fun k hk => h.hi k (by omega)⟩
      unfold FS.wpage; rw [if_neg hb]
  have hlen1 := o1.len
  have hin : inB B m l.length = true := by rw [inB_iff]; omega
  have hp : s1.pwrite F B m l = FS.pw l.length s1 ((512 * F + m : Nat) : Int) l := by
    unfold FS.pwrite; rw [if_pos hin]; congr 1
  have w := pw_erased l.length s1 (512 * F + m) l st1 (Nat.le_refl _) (by omega) (fun k h1 h2 => er1 k h1 (by omega))
  rw [← hp, ← hs1] at w
  have ok2 : (s.wpage F B m l).1.Ok := (FS.wpage_ok h.ok F B m l).1
  refine ⟨w.ok, ok2, w.still, by rw [w.n]; exact n1, by rw [w.len]; exact len1, fun i hi => ?_, fun hne => fun k h1 h2 => ?_, fun k hk => ?_, fun k hk => ?_⟩
  · rw [w.at_]
    by_cases hi2 : i < m
    · rw [if_neg (by omega)]; exact at1 i hi2
    · rw [if_pos (by omega), show 512 * F + i - (512 * F + m) = i - m by omega, hat (i - m) (by omega), show m + (i - m) = i by omega]
  · rw [w.at_, if_neg (by omega)]
    exact er1 k (by omega) (by omega)
  · rw [w.at_, if_neg (by omega)]; exact lo1 k hk
  · rw [w.at_, if_neg (by omega)]; exact hi1 k (by omega)
theorem Laid.pages {s0 : FS} {F B : Nat} {all : List UInt8} (hF : F + B ≤ s0.n.length) (hB : all.length ≤ 512 * B) : ∀ (k : Nat) (s : FS) (m : Nat), Laid s0 s F all m → m % 64 = 0 → m + 64 * k ≤ all.length →
    (FS.wto F B all k s m).2.1 = 0 ∧ (FS.wto F B all k s m).2.2 = m + 64 * k ∧ Laid s0 (FS.wto F B all k s m).1 F all (m + 64 * k)
  | 0, s, m, h, _, _ => ⟨rfl, rfl, h⟩
  | k + 1, s, m, h, hm, hk => by
    have hl : ((all.drop m).take 64).length = 64 := by rw [List.length_take, List.length_drop]; omega
    obtain ⟨h1, h2⟩ := h.page B hF hm ((all.drop m).take 64) (by omega) (by omega) (by omega) (fun j hj => by rw [List.getElem?_take, if_pos (by omega), List.getElem?_drop])
    rw [hl] at h2
    rw [FS.wto, if_neg (by rw [h1]; simp)]
    obtain ⟨a, b, c⟩ := Laid.pages hF hB k _ _ h2 (by omega) (by omega)
    exact ⟨a, b.trans (by omega), by rw [show m + 64 * (k + 1) = m + 64 + 64 * k by omega]; exact c⟩

/-- A writer's state: the bytes that came, how many of them were written, how many it tells, its end, its error. -/
structure WS where
  all : List UInt8
  made : Nat
  came : Nat
  ended : Bool
  e : Int
def WS.new : WS := ⟨[], 0, 0, false, 0⟩
def WS.write (F B : Int) (s : FS) (ws : WS) (l : List UInt8) : FS × WS × Int :=
  if ws.e ≠ 0 then (s, ws, ws.e)
  else if ws.ended = true then (s, ws, 240)
  else if 512 * B < ((ws.all.length + l.length : Nat) : Int) then (s, { ws with e := 241 }, 241)
  else
    ((FS.wto F B (ws.all ++ l) ((ws.all ++ l).length / 64 - ws.made / 64) s ws.made).1,
      { ws with all := ws.all ++ l, made := (FS.wto F B (ws.all ++ l) ((ws.all ++ l).length / 64 - ws.made / 64) s ws.made).2.2,
                came := if (FS.wto F B (ws.all ++ l) ((ws.all ++ l).length / 64 - ws.made / 64) s ws.made).2.1 = 0 then (ws.all ++ l).length else ws.came,
                e := (FS.wto F B (ws.all ++ l) ((ws.all ++ l).length / 64 - ws.made / 64) s ws.made).2.1 },
      (FS.wto F B (ws.all ++ l) ((ws.all ++ l).length / 64 - ws.made / 64) s ws.made).2.1)
def WS.fin (F B : Int) (s : FS) (ws : WS) : FS × WS × Int :=
  if ws.e ≠ 0 then (s, ws, ws.e)
  else if ws.ended = true then (s, ws, 240)
  else if ws.all.length > ws.made then
    ((s.wpage F B ws.made (ws.all.drop ws.made)).1, { ws with ended := true, made := if (s.wpage F B ws.made (ws.all.drop ws.made)).2 = 0 then ws.all.length else ws.made, e := (s.wpage F B ws.made (ws.all.drop ws.made)).2 }, (s.wpage F B ws.made (ws.all.drop ws.made)).2)
  else (s, { ws with ended := true }, 0)
/-- What is always true of a writer. -/
structure WS.Ok (B : Int) (ws : WS) : Prop where
  came : 0 ≤ (ws.came : Int) ∧ (ws.came : Int) ≤ 512 * B
  made : ws.made ≤ ws.all.length
  all : (ws.all.length : Int) ≤ 512 * B
  run : ws.e = 0 → ws.came = ws.all.length ∧ (ws.ended = false → ws.made = 64 * (ws.all.length / 64))
theorem FS.wto_made (F B : Int) (all : List UInt8) : ∀ (k : Nat) (s : FS) (m : Nat), (FS.wto F B all k s m).2.2 ≤ m + 64 * k ∧ ((FS.wto F B all k s m).2.1 = 0 → (FS.wto F B all k s m).2.2 = m + 64 * k)
  | 0, s, m => ⟨Nat.le_refl _, fun _ => rfl⟩
  | k + 1, s, m => by
    rw [FS.wto]
    split
    · rename_i h
      exact ⟨by simp only; omega, fun h' => absurd h' h⟩
    · have := FS.wto_made F B all k (s.wpage F B m ((all.drop m).take 64)).1 (m + 64)
      exact ⟨by omega, fun h => by rw [this.2 h]; omega⟩
theorem WS.new_ok {B : Int} (h : 0 ≤ B) : (WS.new).Ok B := ⟨by simp [WS.new]; omega, Nat.le_refl _, by simp [WS.new]; omega, fun _ => ⟨rfl, fun _ => rfl⟩⟩
theorem WS.write_ok {F B : Int} {s : FS} {ws : WS} (hs : s.Ok) (h : ws.Ok B) (l : List UInt8) : (ws.write F B s l).1.Ok ∧ (ws.write F B s l).1.n.length = s.n.length ∧ (ws.write F B s l).2.1.Ok B := by
  unfold WS.write
  split
  · exact ⟨hs, rfl, h⟩
  · rename_i he
    have he : ws.e = 0 := by simpa using he
    split
    · exact ⟨hs, rfl, h⟩
    · rename_i hn
      have hn : ws.ended = false := by simpa using hn
      split
      · exact ⟨hs, rfl, h.came, h.made, h.all, fun h => by simp at h⟩
      · rename_i hf
        obtain ⟨hr1, hr2⟩ := h.run he
        have hr2 := hr2 hn
        have hm := FS.wto_made F B (ws.all ++ l) ((ws.all ++ l).length / 64 - ws.made / 64) s ws.made
        have ho := FS.wto_ok F B (ws.all ++ l) ((ws.all ++ l).length / 64 - ws.made / 64) s ws.made hs
        have hl : (ws.all ++ l).length = ws.all.length + l.length := List.length_append ..
        generalize FS.wto F B (ws.all ++ l) ((ws.all ++ l).length / 64 - ws.made / 64) s ws.made = r at hm ho ⊢
        refine ⟨ho.1, ho.2, ⟨?_, ?_, ?_, fun he2 => ⟨?_, fun _ => ?_⟩⟩⟩
        · have := h.came
          dsimp only
          split <;> omega
        · dsimp only; omega
        · dsimp only; omega
        · dsimp only at he2 ⊢; rw [if_pos he2]
        · dsimp only at he2 ⊢; rw [hm.2 he2]; omega
theorem WS.fin_ok {F B : Int} {s : FS} {ws : WS} (hs : s.Ok) (h : ws.Ok B) : (ws.fin F B s).1.Ok ∧ (ws.fin F B s).1.n.length = s.n.length ∧ (ws.fin F B s).2.1.Ok B := by
  unfold WS.fin
  split
  · exact ⟨hs, rfl, h⟩
  · rename_i he
    have he : ws.e = 0 := by simpa using he
    split
    · exact ⟨hs, rfl, h⟩
    · rename_i hn
      have hn : ws.ended = false := by simpa using hn
      split
      · have ho := FS.wpage_ok hs F B ws.made (ws.all.drop ws.made)
        refine ⟨ho.1, ho.2, ⟨h.came, ?_, h.all, fun he2 => ⟨?_, fun h => by cases h⟩⟩⟩
        · dsimp only; split
          · exact Nat.le_refl _
          · exact h.made
        · exact (h.run he).1
      · exact ⟨hs, rfl, h.came, h.made, h.all, fun he2 => ⟨(h.run he).1, fun h => by cases h⟩⟩
end Go.Proofs.YtjednaendedpdaaGreat
namespace Go.Proofs.YtjednaendedpdaaGreat
set_option maxRecDepth 100000
set_option linter.unusedVariables false
open Go Go.RowKit

/-- The number of bytes, the lowest first. -/
def leNat : List UInt8 → Nat
  | [] => 0
  | b :: r => b.toNat + 256 * leNat r
theorem leNat_lt (l : List UInt8) : leNat l < 256 ^ l.length := by
  induction l with
  | nil => simp [leNat]
  | cons b r ih =>
    have := b.toNat_lt
    simp only [leNat, List.length_cons, Nat.pow_succ]; omega
theorem leNat_append (l r : List UInt8) : leNat (l ++ r) = leNat l + 256 ^ l.length * leNat r := by
  induction l with
  | nil => simp [leNat]
  | cons b l ih =>
    simp only [List.cons_append, leNat, List.length_cons, Nat.pow_succ, ih, Nat.mul_add, Nat.mul_comm (256 ^ l.length) 256, Nat.mul_assoc]; omega
theorem leNat_snoc (l : List UInt8) (c : UInt8) : leNat (l ++ [c]) = leNat l + 256 ^ l.length * c.toNat := by
  rw [leNat_append]; simp [leNat]
theorem take_snoc (s : ByteArray) (k : Nat) (h : k < s.size) : s.data.toList.take (k + 1) = s.data.toList.take k ++ [s[k]] := by
  rw [List.take_succ_eq_append_getElem (by simpa using h)]; rfl

/-- The words of a number, c of them. -/
def wcells (n c : Nat) : Array Value := ((List.range c).map fun j => Value.int .u64 (limb n j)).toArray
theorem wcells_size (n c : Nat) : (wcells n c).size = c := by simp [wcells]
theorem wcells_get (n c j : Nat) (h : j < c) : (wcells n c)[j]? = some (.int .u64 (limb n j)) := by simp [wcells, h]

theorem limb_word (n b k j : Nat) (hn : n < 256 ^ k) (hb : b < 256) :
    limb (n + 256 ^ k * b) j = if j = k / 8 then ((n / 2 ^ (64 * j) % 18446744073709551616 ||| b * 2 ^ (8 * (k % 8)) : Nat) : Int) else limb n j := by
  have e256 : ∀ q, 256 ^ q = 2 ^ (8 * q) := fun q => by rw [Nat.pow_mul]
  have hk : 8 * k = 64 * (k / 8) + 8 * (k % 8) := by omega
  rw [e256] at hn ⊢
  rw [hk, Nat.pow_add] at hn ⊢
  generalize hq : k / 8 = q at hn ⊢
  generalize hr : k % 8 = r at hn ⊢
  have hr8 : r < 8 := by omega
  clear hk hq hr e256
  have hx : n / 2 ^ (64 * q) < 2 ^ (8 * r) := (Nat.div_lt_iff_lt_mul (Nat.two_pow_pos _)).2 (by rw [Nat.mul_comm]; exact hn)
  have h64 : b * 2 ^ (8 * r) + 2 ^ (8 * r) ≤ 2 ^ 64 := by
    have : (b + 1) * 2 ^ (8 * r) ≤ 256 * 2 ^ (56) := Nat.mul_le_mul (by omega) (Nat.pow_le_pow_right (by omega) (by omega))
    rw [Nat.add_mul] at this; omega
  unfold limb
  congr 1
  split
  · rename_i h; subst h
    have e : (n + 2 ^ (64 * j) * 2 ^ (8 * r) * b) / 2 ^ (64 * j) = n / 2 ^ (64 * j) + b * 2 ^ (8 * r) := by
      rw [Nat.mul_assoc, Nat.add_mul_div_left _ _ (Nat.two_pow_pos _), Nat.mul_comm b]
    rw [e, Nat.mod_eq_of_lt (a := n / 2 ^ (64 * j)) (by omega), Nat.or_comm, nat_join (8 * r) _ _ (Nat.mul_mod_left _ _) hx]
    generalize n / 2 ^ (64 * j) = x at hx ⊢
    generalize b * 2 ^ (8 * r) = y at h64 ⊢
    generalize 2 ^ (8 * r) = z at h64 hx
    rw [Nat.mod_eq_of_lt (by omega)]; omega
  · rename_i h
    rcases Nat.lt_or_gt_of_ne h with h | h
    · obtain ⟨d, hd⟩ : ∃ d, 64 * q = 64 * j + (64 + d) := ⟨64 * (q - j - 1), by omega⟩
      have e : n + 2 ^ (64 * q) * 2 ^ (8 * r) * b = n + 2 ^ (64 * j) * (2 ^ 64 * (2 ^ d * 2 ^ (8 * r) * b)) := by
        rw [hd, Nat.pow_add, Nat.pow_add]; simp only [Nat.mul_assoc]
      rw [e, Nat.add_mul_div_left _ _ (Nat.two_pow_pos _)]
      omega
    · have hle : 2 ^ (64 * q) * 2 ^ 64 ≤ 2 ^ (64 * j) := by rw [← Nat.pow_add]; exact Nat.pow_le_pow_right (by omega) (by omega)
      have h1 : 2 ^ (64 * q) * (b * 2 ^ (8 * r) + 2 ^ (8 * r)) ≤ 2 ^ (64 * q) * 2 ^ 64 := Nat.mul_le_mul (Nat.le_refl _) h64
      have h2 : n + 2 ^ (64 * q) * 2 ^ (8 * r) * b < 2 ^ (64 * q) * (b * 2 ^ (8 * r) + 2 ^ (8 * r)) := by
        rw [Nat.mul_add, Nat.mul_comm b, ← Nat.mul_assoc]; omega
      have h3 : n < 2 ^ (64 * j) := by
        have := Nat.le_add_right n (2 ^ (64 * q) * 2 ^ (8 * r) * b); omega
      rw [Nat.div_eq_of_lt (by omega), Nat.div_eq_of_lt h3]

theorem word_or (n b k : Nat) (hn : n < 256 ^ k) (hb : b < 256) :
    bits .or .u64 (limb n (k / 8)) (IntKind.u64.wrap (IntKind.u64.wrap (b : Int) * 2 ^ (8 * (k % 8)))) = limb (n + 256 ^ k * b) (k / 8) := by
  have hr : k % 8 < 8 := by omega
  have h64 : b * 2 ^ (8 * (k % 8)) < 18446744073709551616 := by
    have : b * 2 ^ (8 * (k % 8)) ≤ 255 * 2 ^ 56 := Nat.mul_le_mul (by omega) (Nat.pow_le_pow_right (by omega) (by omega))
    omega
  rw [limb_word n b k _ hn hb, if_pos rfl]
  have e : IntKind.u64.wrap (IntKind.u64.wrap (b : Int) * 2 ^ (8 * (k % 8))) = ((b * 2 ^ (8 * (k % 8)) : Nat) : Int) := by
    rw [IntKind.wrap_u64, IntKind.wrap_u64, Int.emod_eq_of_lt (a := (b : Int)) (by omega) (by omega)]
    rw [show ((2 : Int) ^ (8 * (k % 8))) = ((2 ^ (8 * (k % 8)) : Nat) : Int) from by simp, ← Int.natCast_mul]
    rw [Int.emod_eq_of_lt (by omega) (by omega)]
  rw [e]; unfold limb
  exact u64_or_nat _ _ (by omega) h64

theorem wcells_step (n b k c : Nat) (hn : n < 256 ^ k) (hb : b < 256) :
    (wcells n c).setIfInBounds (k / 8) (.int .u64 (limb (n + 256 ^ k * b) (k / 8))) = wcells (n + 256 ^ k * b) c := by
  apply Array.ext
  · simp [wcells]
  · intro i h1 h2
    rw [Array.getElem_setIfInBounds (by simpa using h1)]
    split
    · rename_i h; subst h; simp [wcells]
    · rename_i h; simp only [wcells, List.getElem_toArray, List.getElem_map, List.getElem_range]
      rw [limb_word n b k i hn hb, if_neg (by omega)]

/-- The number of a string's bytes. -/
def num (s : ByteArray) : Nat := leNat s.data.toList
/-- k bytes of a number, the lowest first. -/
def leList : Nat → Nat → List UInt8
  | 0, _ => []
  | k + 1, n => UInt8.ofNat (n % 256) :: leList k (n / 256)
theorem leList_length (k n : Nat) : (leList k n).length = k := by
  induction k generalizing n with
  | zero => rfl
  | succ k ih => simp [leList, ih]
theorem leNat_leList (k n : Nat) : leNat (leList k n) = n % 256 ^ k := by
  induction k generalizing n with
  | zero => simp [leList, leNat, Nat.mod_one]
  | succ k ih =>
    simp only [leList, leNat, ih]
    rw [Nat.pow_succ, Nat.mul_comm (256 ^ k) 256, Nat.mod_mul]
    simp
theorem leList_get (k n i : Nat) (h : i < k) : (leList k n)[i]? = some (UInt8.ofNat (n / 256 ^ i % 256)) := by
  induction k generalizing n i with
  | zero => omega
  | succ k ih =>
    cases i with
    | zero => simp [leList]
    | succ i => simp only [leList, List.getElem?_cons_succ]; rw [ih _ _ (by omega), Nat.div_div_eq_div_mul, Nat.pow_succ, Nat.mul_comm 256]
theorem leNat_inj : ∀ (l r : List UInt8), l.length = r.length → leNat l = leNat r → l = r
  | [], [], _, _ => rfl
  | [], _ :: _, h, _ => by simp at h
  | _ :: _, [], h, _ => by simp at h
  | a :: l, b :: r, h, e => by
    have ha := a.toNat_lt; have hb := b.toNat_lt
    simp only [leNat] at e
    have h1 : a.toNat = b.toNat := by omega
    have h2 : leNat l = leNat r := by omega
    rw [UInt8.toNat_inj.1 h1, leNat_inj l r (by simpa using h) h2]

/-- Bytes that are written so far. -/
def bcells (n k c : Nat) : Array Value := ((List.range c).map fun i => Value.int .u8 ((if i < k then n / 256 ^ i % 256 else 0 : Nat) : Int)).toArray
theorem bcells_step (n k c : Nat) : (bcells n k c).setIfInBounds k (.int .u8 ((n / 256 ^ k % 256 : Nat) : Int)) = bcells n (k + 1) c := by
  apply Array.ext
  · simp [bcells]
  · intro i h1 h2
    rw [Array.getElem_setIfInBounds (by simpa using h1)]
    simp only [bcells, List.getElem_toArray, List.getElem_map, List.getElem_range]
    split
    · rename_i h; subst h; simp
    · rename_i h
      by_cases hi : i < k
      · rw [if_pos hi, if_pos (by omega)]
      · rw [if_neg hi, if_neg (by omega)]
theorem bcells_all (n c : Nat) : bcells n c c = ((leList c n).map fun u => Value.int .u8 (u.toNat : Int)).toArray := by
  apply Array.ext'
  apply List.ext_getElem?
  intro i
  by_cases h : i < c
  · simp [bcells, h, leList_get c n i h]
  · simp [bcells, h, leList_length]

theorem byte_of (n k : Nat) : limb n (k / 8) / 2 ^ (8 * (k % 8)) % 256 = ((n / 256 ^ k % 256 : Nat) : Int) := by
  have e : (256 : Nat) ^ k = 2 ^ (64 * (k / 8)) * 2 ^ (8 * (k % 8)) := by
    rw [← Nat.pow_add, show (256 : Nat) = 2 ^ 8 from rfl, ← Nat.pow_mul]; congr 1; omega
  have hr : k % 8 < 8 := by omega
  rw [e, ← Nat.div_div_eq_div_mul]
  unfold limb
  rw [show ((2 : Int) ^ (8 * (k % 8))) = ((2 ^ (8 * (k % 8)) : Nat) : Int) from by simp, ← Int.natCast_ediv]
  generalize n / 2 ^ (64 * (k / 8)) = x
  generalize k % 8 = r at hr
  rcases (by omega : r = 0 ∨ r = 1 ∨ r = 2 ∨ r = 3 ∨ r = 4 ∨ r = 5 ∨ r = 6 ∨ r = 7) with rfl | rfl | rfl | rfl | rfl | rfl | rfl | rfl <;> simp <;> omega

/-- 32 bytes of a number. -/
def sbytes (n : Nat) : ByteArray := ⟨(leList 32 n).toArray⟩
end Go.Proofs.YtjednaendedpdaaGreat
namespace Go.Proofs.YtjednaendedpdaaGreat
set_option maxRecDepth 100000
set_option linter.unusedVariables false
open Go Go.RowKit

theorem i64_or_nat (a b : Nat) (ha : a < 9223372036854775808) (hb : b < 9223372036854775808) : bits .or .i64 (a : Int) (b : Int) = ((a ||| b : Nat) : Int) := by
  have hx : a ||| b < 2 ^ 63 := Nat.or_lt_two_pow (by omega) (by omega)
  show IntKind.i64.wrap ((BitVec.ofInt 64 (a : Int) ||| BitVec.ofInt 64 (b : Int)).toNat : Int) = _
  rw [BitVec.toNat_or, ofInt_u64 a (by omega), ofInt_u64 b (by omega), IntKind.wrap_i64]
  omega
theorem str_ne' (s : ByteArray) (h : s.size ≠ 0) : s.toList.isEmpty = false := by
  rw [ByteArray.toList_eq]; cases hd : s.data.toList with
  | nil => exact absurd (by have := congrArg List.length hd; simpa using this) h
  | cons a b => rfl
theorem e256 (q : Nat) : 256 ^ q = 2 ^ (8 * q) := by rw [Nat.pow_mul]
/-- A byte of a number. -/
theorem shr_byte (n i : Nat) : ∃ d c : Nat, (n : Int) / 2 ^ (8 * i) = (d : Int) ∧ IntKind.u8.wrap (d : Int) = (c : Int) ∧ Box (c = n / 256 ^ i % 256) := by
  refine ⟨n / 256 ^ i, _, ?_, by rw [IntKind.wrap_u8]; rfl, ⟨rfl⟩⟩
  rw [e256, show ((2 : Int) ^ (8 * i)) = ((2 ^ (8 * i) : Nat) : Int) from by simp, ← Int.natCast_ediv]
/-- A byte more of a number. -/
theorem or_byte (a b i : Nat) (ha : a < 256 ^ i) (hb : b < 256) (hi : i ≤ 6) : bits .or .i64 (a : Int) (IntKind.i64.wrap ((b : Int) * 2 ^ (8 * i))) = ((a + 256 ^ i * b : Nat) : Int) := by
  have h56 : b * 2 ^ (8 * i) ≤ 255 * 2 ^ 48 := Nat.mul_le_mul (by omega) (Nat.pow_le_pow_right (by omega) (by omega))
  have ha' : a < 2 ^ (8 * i) := by rw [← e256]; exact ha
  have h48 : 2 ^ (8 * i) ≤ 2 ^ 48 := Nat.pow_le_pow_right (by omega) (by omega)
  have e : IntKind.i64.wrap ((b : Int) * 2 ^ (8 * i)) = ((b * 2 ^ (8 * i) : Nat) : Int) := by
    rw [show ((2 : Int) ^ (8 * i)) = ((2 ^ (8 * i) : Nat) : Int) from by simp, ← Int.natCast_mul, IntKind.wrap_i64]
    omega
  rw [e, i64_or_nat a _ (by omega) (by omega), Nat.or_comm, nat_join (8 * i) _ _ (Nat.mul_mod_left _ _) ha', e256, Nat.mul_comm b]
  congr 1; omega

set_option maxHeartbeats 2000000 in
theorem cput_any (n k : Nat) (hk : 1 ≤ k ∧ k ≤ 7) (hn : n < 256 ^ k) (w : World) :
    Calls Tryz.prog 79 #[.int .i64 n, .int .i64 k] w fun e w' => e = .returned (.tuple #[.string ⟨(leList k n).toArray⟩, .int .i64 0]) ∧ Below w.heap.size w w' := by
  obtain ⟨h1, h7⟩ := hk
  have g0 : decide ((k : Int) < 1) = false := by rw [decide_eq_false_iff_not]; omega
  have g1 : decide (7 < (k : Int)) = false := by rw [decide_eq_false_iff_not]; omega
  have g2 : decide ((n : Int) < 0) = false := by rw [decide_eq_false_iff_not]; omega
  have hz : ((n : Int) / 2 ^ (8 * k) != 0) = false := by
    rw [bne_eq_false_iff_eq, show ((2 : Int) ^ (8 * k)) = ((2 ^ (8 * k) : Nat) : Int) from by simp, ← Int.natCast_ediv, ← e256, Nat.div_eq_of_lt hn]; rfl
  have hmk := fun w => make_bytes k k rfl (by omega) w
  have r0 : (w.alloc (.cells (Array.replicate k (.int .u8 0)) 5)).heap[w.heap.size]? = some (.cells (bcells n 0 k) 5 (0, 0)) := by
    rw [heap_alloc_new]; congr 2; apply Array.ext'; apply List.ext_getElem?; intro i; by_cases hi : i < k <;> simp [bcells, hi]
  have R0 := Box.mk r0
  have hkI : (k : Int) ≤ 7 := by omega
  clear hn r0
  go_enter Tryz.func79, Tryz.ntmps79
  go_wp2
  clear hz
  go_loopw [29] (fun i wr => ∃ j : Nat, j ≤ k ∧ i = .int .i64 j ∧ wr.heap[w.heap.size]? = some (.cells (bcells n j k) 5 (0, 0)) ∧ Below w.heap.size w wr) (fun i _ => k - (intOf i).toNat)
  case atStart => exact ⟨0, Nat.zero_le _, rfl, R0.out, (Below.refl _ _).alloc (Nat.le_refl _) _⟩
  case round =>
    obtain ⟨j, hj, rfl, hrow, hb⟩ := hrel
    have HR := Box.mk hrow; have HB := Box.mk hb
    by_cases hlt : j < k
    · have hjI : (j : Int) < (k : Int) := by omega
      obtain ⟨d, c, hd, hd2, HC⟩ := shr_byte n j
      have hc2 : wr.cell? ⟨w.heap.size, j, none⟩ = some (.int .u8 ((if j < j then n / 256 ^ j % 256 else 0 : Nat) : Int)) := by
        rw [cell_of_row _ _ _ _ _ _ hrow]; simp [bcells, hlt]
      have hf : wr.frozen? ⟨w.heap.size, j, none⟩ = false := frozen_of_row _ _ _ _ _ hrow
      clear hrow hb
      go_wp2
      refine ⟨⟨j + 1, by omega, by go_num, ?_, HB.out.setCell (Nat.le_refl _) _⟩, by simp [intOf]; omega⟩
      rw [heap_setCell_same _ _ _ _ _ _ HR.out, HC.out, bcells_step]
    · have hjk : j = k := by omega
      subst hjk
      rw [bcells_all] at hrow
      have hcv := run_bytes_of_row Tryz.prog wr w.heap.size j _ _ 22 9 5 j (leList_length _ _) Tryz.underlying22 Tryz.underlying5 Tryz.underlying9 hrow
      clear hrow hb
      go_wp2
      go_ret2
      exact ⟨rfl, HB.out⟩

set_option maxHeartbeats 2000000 in
theorem cget_any (s : ByteArray) (hs : 1 ≤ s.size ∧ s.size ≤ 7) (w : World) :
    Calls Tryz.prog 61 #[.string s] w fun e w' => e = .returned (.tuple #[.int .i64 (num s : Nat), .int .i64 0]) ∧ w = w' := by
  obtain ⟨h1, h7⟩ := hs
  have hne : s.toList.isEmpty = false := str_ne' s (by omega)
  have h7I : decide (7 < (s.size : Int)) = false := by rw [decide_eq_false_iff_not]; omega
  have h7J : (s.size : Int) ≤ 7 := by omega
  go_enter Tryz.func61, Tryz.ntmps61
  go_wp2
  go_loopw [4, 15] (fun n i wr => ∃ j : Nat, j ≤ s.size ∧ i = .int .i64 j ∧ n = .int .i64 (leNat (s.data.toList.take j) : Nat) ∧ w = wr) (fun _ i _ => s.size - (intOf i).toNat)
  case atStart => exact ⟨0, Nat.zero_le _, rfl, rfl, rfl⟩
  case round =>
    obtain ⟨j, hj, rfl, rfl, rfl⟩ := hrel
    by_cases hlt : j < s.size
    · have hjI : (j : Int) < (s.size : Int) := by omega
      have hor := or_byte (leNat (s.data.toList.take j)) s[j].toNat j (by have := leNat_lt (s.data.toList.take j); rw [List.length_take, Nat.min_eq_left (by simpa using hj)] at this; exact this) s[j].toNat_lt (by omega)
      have hnx : leNat (s.data.toList.take j) + 256 ^ j * s[j].toNat = leNat (s.data.toList.take (j + 1)) := by
        rw [take_snoc s j hlt, leNat_snoc, List.length_take, Nat.min_eq_left (by simpa using hj)]
      rw [hnx] at hor
      clear hnx
      go_wp2
      refine ⟨⟨j + 1, by omega, by go_num, ?_, trivial⟩, by simp [intOf]; omega⟩
      have ew : ∀ x, wrap64 x = IntKind.i64.wrap x := fun x => (IntWalk.i64_left x).symm
      have hb := s[j].toNat_lt
      rw [ew, ew, show IntKind.i64.wrap (s[j].toNat : Int) = (s[j].toNat : Int) by rw [IntKind.wrap_i64]; omega, hor]
    · have hjk : j = s.size := by omega
      subst hjk
      have e : s.data.toList.take s.size = s.data.toList := List.take_of_length_le (by simp)
      rw [e]
      go_wp2
      go_ret2
      exact ⟨rfl, rfl⟩
end Go.Proofs.YtjednaendedpdaaGreat
namespace Go.Proofs.YtjednaendedpdaaGreat
set_option maxRecDepth 100000
set_option linter.unusedVariables false
open Go Go.RowKit

/-- How many pages a record takes. -/
def pgs (n : Nat) : Nat := if 400 < n then 0 else if n ≤ 60 then 1 else 1 + (n - 60 + 62) / 63
/-- A log's state: its segments (block, number), the oldest first; whether the power went. -/
structure LS where
  segs : List (Nat × Nat)
  dead : Bool
def LS.told (l : LS) (e : Int) : LS := { l with dead := l.dead || e == 2 }
/-- A segment's first seven bytes. -/
def begL (num : Nat) : List UInt8 := 83 :: leList 6 num
def FS.lclean (s : FS) (F B : Int) (l : LS) (b : Nat) : FS × LS × Int := ((s.wclean F B b).1, l.told (s.wclean F B b).2, (s.wclean F B b).2)
def FS.lwrite (s : FS) (F B : Int) (l : LS) (at_ : Nat) (t : List UInt8) : FS × LS × Int := ((s.pwrite F B at_ t).1, l.told (s.pwrite F B at_ t).2, (s.pwrite F B at_ t).2)
def FS.lmakes (s : FS) (F B : Int) (l : LS) (b num : Nat) : FS × LS × Int :=
  let c := s.lclean F B l b
  if c.2.2 ≠ 0 then c else
  let a := c.1.lwrite F B c.2.1 (512 * b) (begL num)
  if a.2.2 ≠ 0 then a else
  let z := a.1.lwrite F B a.2.1 (512 * b + 7) [0]
  if z.2.2 ≠ 0 then z else (z.1, { z.2.1 with segs := z.2.1.segs ++ [(b, num)] }, 0)
theorem FS.lclean_ok {s : FS} (h : s.Ok) (F B : Int) (l : LS) (b : Nat) : (s.lclean F B l b).1.Ok ∧ (s.lclean F B l b).1.n.length = s.n.length := FS.wclean_ok h F B b
theorem FS.lwrite_ok {s : FS} (h : s.Ok) (F B : Int) (l : LS) (a : Nat) (t : List UInt8) : (s.lwrite F B l a t).1.Ok ∧ (s.lwrite F B l a t).1.n.length = s.n.length := FS.pwrite_ok h F B a t
theorem FS.lmakes_ok {s : FS} (h : s.Ok) (F B : Int) (l : LS) (b num : Nat) : (s.lmakes F B l b num).1.Ok ∧ (s.lmakes F B l b num).1.n.length = s.n.length := by
  unfold FS.lmakes
  have h1 := FS.lclean_ok h F B l b
  generalize s.lclean F B l b = c at h1 ⊢
  have h2 := FS.lwrite_ok h1.1 F B c.2.1 (512 * b) (begL num)
  dsimp only
  split
  · exact h1
  · generalize c.1.lwrite F B c.2.1 (512 * b) (begL num) = a at h2 ⊢
    have h3 := FS.lwrite_ok h2.1 F B a.2.1 (512 * b + 7) [0]
    split
    · exact ⟨h2.1, h2.2.trans h1.2⟩
    · generalize a.1.lwrite F B a.2.1 (512 * b + 7) [0] = z at h3 ⊢
      split <;> exact ⟨h3.1, h3.2.trans (h2.2.trans h1.2)⟩
end Go.Proofs.YtjednaendedpdaaGreat
