/- The calls that the document fixes, of a part. What is written to erased bytes; a block erased: plain laws. An image written page by page into a part: the states, and what a still flash keeps of it: plain laws. Regions that draw their order and hold loads, calls that make memory, and new blocks, ahead of a tail of stores: one walk in the order of the text serves every order. The world is a variable throughout: it has grown out of the one in which the region began. Nothing of the program. Regions that draw their order and hold calls that change named blocks. Nothing of the program. Images in slots: how a writer lies in memory; a page is written; Begin, Size, Read. -/
import Derived.Test.YtopiopomioglfaaM03
import Derived.Test.YtopiopomioglfaaM02
import Derived.Laws.StructEq
import Derived.Test.YtopiopomioglfaaM01
import Derived.StillTail
import Derived.Laws.Rows
import Derived.Laws.CopyOwn
import Derived.Deep.DeepCutAuto
import Derived.Deep.CutBlock
namespace Go.Proofs.Ytopiopomioglfaa
set_option maxRecDepth 100000
set_option linter.unusedVariables false
open Go Go.RowKit

theorem cellU {w w' : World} {S : List Nat} (hu : Upd S w w') {g j : Nat} {v : Value} (hg : g < w.heap.size) (hn : g ∉ S) (h : w.cell? ⟨g, j, none⟩ = some v) : w'.cell? ⟨g, j, none⟩ = some v :=
  (World.cell?_of_block (w := w) (hu.block g hg hn)).trans h
end Go.Proofs.Ytopiopomioglfaa
namespace Go.Proofs.Ytopiopomioglfaa
set_option maxRecDepth 100000
set_option linter.unusedVariables false
open Go Go.RowKit

theorem and255 (c : UInt8) : (255 : UInt8) &&& c = c := by
  have : ∀ n : Fin 256, (255 : UInt8) &&& (UInt8.ofNat n.val) = UInt8.ofNat n.val := by decide +kernel
  have h := this ⟨c.toNat, c.toNat_lt⟩
  simpa using h
/-- So many bytes from A on are erased. -/
def Er (b : List UInt8) (A n : Nat) : Prop := ∀ k, A ≤ k → k < A + n → b[k]? = some 255
theorem prog_er (b : List UInt8) (A : Nat) (l : List UInt8) (h : Er b A l.length) (k : Nat) : (progBytes b A l false 0 0)[k]? = if A ≤ k ∧ k < A + l.length then l[k - A]? else b[k]? := by
  by_cases hk : A ≤ k ∧ k < A + l.length
  · rw [if_pos hk, progBytes_at, h k hk.1 hk.2, Option.map_some, if_pos hk.1]
    have hl : k - A < l.length := by omega
    rw [List.getElem?_eq_getElem hl]
    simp only [progByte, true_or, if_true, and255]
  · rw [if_neg hk, progBytes_get _ _ _ _ _ _ _ (by omega)]
theorem still_go {s : FS} (h : s.Still) (A : Nat) (l : List UInt8) (hl : l ≠ []) (hA : A + l.length ≤ s.b.length) (hp : (A : Int) / 64 = ((A : Int) + l.length - 1) / 64) :
    (s.program A l).2 = 0 ∧ (s.program A l).1.b = progBytes s.b A l false 0 0 ∧ (s.program A l).1.n = s.n ∧ (s.program A l).1.Still := by
  obtain ⟨h1, h2, h3, h4⟩ := h.program A l
  have ho : onB s.b.length A l.length = true := by unfold onB; rw [decide_eq_true_iff]; omega
  refine ⟨?_, ?_, h3, h4⟩
  · rw [h1]; unfold ansP; rw [if_neg (by simp [ho]), if_neg hl, if_neg (by simpa using hp)]
  · rw [h2]; unfold progS actP
    rw [if_neg (by simp [ho] : ¬ onB s.b.length A l.length = false), if_neg hl, if_neg (by simpa using hp : ¬ (A : Int) / 64 ≠ ((A : Int) + l.length - 1) / 64)]
    rfl
structure Wrote (s : FS) (A : Nat) (l : List UInt8) (r : FS × Int) : Prop where
  ok : r.2 = 0
  still : r.1.Still
  n : r.1.n = s.n
  len : r.1.b.length = s.b.length
  at_ : ∀ k, r.1.b[k]? = if A ≤ k ∧ k < A + l.length then l[k - A]? else s.b[k]?
theorem pw_erased : ∀ (f : Nat) (s : FS) (A : Nat) (l : List UInt8), s.Still → l.length ≤ f → A + l.length ≤ s.b.length → Er s.b A l.length → Wrote s A l (FS.pw f s A l)
  | 0, s, A, l, hs, hf, hA, he => by
    obtain rfl : l = [] := List.eq_nil_of_length_eq_zero (by omega)
    exact ⟨rfl, hs, rfl, rfl, fun k => by rw [if_neg (by simp only [List.length_nil]; omega)]; rfl⟩
  | f + 1, s, A, l, hs, hf, hA, he => by
    by_cases hl : l = []
    · subst hl
      rw [FS.pw_nil]
      exact ⟨rfl, hs, rfl, rfl, fun k => by rw [if_neg (by simp only [List.length_nil]; omega)]⟩
    · have hl1 : 1 ≤ l.length := by cases l with | nil => exact absurd rfl hl | cons a t => simp
      rw [FS.pw_step _ _ _ _ hl]
      obtain ⟨m, hm⟩ : ∃ m, m = min l.length (64 - ((A : Int) % 64).toNat) := ⟨_, rfl⟩
      rw [← hm]
      have hmod : ((A : Int) % 64).toNat = A % 64 := by omega
      rw [hmod] at hm
      have hm1 : 1 ≤ m ∧ m ≤ l.length ∧ A % 64 + m ≤ 64 := by omega
      have hll : (l.take m).length = m := by rw [List.length_take]; omega
      obtain ⟨g1, g2, g3, g4⟩ := still_go hs A (l.take m) (fun h => by rw [h] at hll; simp at hll; omega) (by rw [hll]; omega) (by rw [hll]; omega)
      rw [if_neg (by simp [g1])]
      have e1 : Er s.b A (l.take m).length := fun k h1 h2 => he k h1 (by rw [hll] at h2; omega)
      have hat := prog_er s.b A (l.take m) e1
      have hA' : ((A : Int) + (m : Nat)) = ((A + m : Nat) : Int) := by omega
      rw [hA']
      have hlen : (s.program A (l.take m)).1.b.length = s.b.length := by rw [g2, progBytes_length]
      have hd : (l.drop m).length = l.length - m := List.length_drop ..
      have ih := pw_erased f (s.program A (l.take m)).1 (A + m) (l.drop m) g4 (by rw [hd]; omega) (by rw [hlen, hd]; omega) (fun k h1 h2 => by
        rw [g2, hat k, if_neg (by rw [hll]; omega)]
        exact he k (by omega) (by rw [hd] at h2; omega))
      refine ⟨ih.ok, ih.still, ih.n.trans g3, ih.len.trans hlen, fun k => ?_⟩
      rw [ih.at_ k, g2, hat k, hll, hd]
      by_cases c1 : A ≤ k ∧ k < A + m
      · rw [if_neg (by omega), if_pos c1, if_pos (by omega), List.getElem?_take, if_pos (by omega)]
      · by_cases c2 : A + m ≤ k ∧ k < A + m + (l.length - m)
        · rw [if_pos c2, if_pos (by omega), List.getElem?_drop]; congr 1; omega
        · rw [if_neg c2, if_neg c1, if_neg (by omega)]
/-- A list of 255s alone, counted. -/
theorem ffs_all (l : List UInt8) (h : ∀ k, k < l.length → l[k]? = some 255) : ffs ⟨l.toArray⟩ = l.length := by
  have : l = List.replicate l.length 255 := by
    apply List.ext_getElem?
    intro k
    rw [List.getElem?_replicate]
    by_cases hk : k < l.length
    · rw [if_pos hk, h k hk]
    · rw [if_neg hk, List.getElem?_eq_none (by omega)]
  unfold ffs Lib.countByte
  show l.count 255 = _
  conv => lhs; rw [this]
  simp
/-- An erased range of a part is clean. -/
theorem clean_er {s : FS} {B : Int} (hs : s.Still) (A n : Nat) (hb : (s.b.length : Int) = 512 * B) (hA : A + n ≤ s.b.length) (he : Er s.b A n) : pcleanV s 0 B A n = (true, 0) := by
  have hin : inB B A n = true := by rw [inB_iff]; omega
  have hd : s.dead = false := hs.dead
  have e : preadV s 0 B A n = (⟨((s.b.drop A).take n).toArray⟩, 0) := by
    unfold preadV
    rw [if_pos hin, if_neg (by rw [hd]; decide), show (512 * 0 + (A : Int)).toNat = A by omega, Int.toNat_natCast]
  have hl : ((s.b.drop A).take n).length = n := by rw [List.length_take, List.length_drop]; omega
  have hf := ffs_all ((s.b.drop A).take n) (fun k hk => by
    rw [List.getElem?_take, if_pos (by omega), List.getElem?_drop]; exact he _ (by omega) (by omega))
  unfold pcleanV
  rw [e]
  simp only [if_true]
  rw [hf, show (⟨((s.b.drop A).take n).toArray⟩ : ByteArray).size = ((s.b.drop A).take n).length from rfl]
  simp
/-- A block of a still flash, erased. -/
theorem still_erase {s : FS} (h : s.Still) (k : Nat) (hk : k < s.n.length) :
    (s.erase k).2 = 0 ∧ (s.erase k).1.Still ∧ (s.erase k).1.n.length = s.n.length ∧ (s.erase k).1.b = eraseUpto s.b (512 * k) 512 false 0 0 := by
  obtain ⟨h1, h2⟩ := h.step
  have hb : blkB s.n.length k = true := by unfold blkB; rw [decide_eq_true_iff]; omega
  unfold FS.erase
  rw [if_neg (by rw [h.dead]; decide), if_neg (by simp [hb])]
  refine ⟨by rw [h2]; unfold toldI; rfl, ⟨h1.armed, h1.dead⟩, by simp only [FS.bump, List.length_set], ?_⟩
  simp only [h2, Int.toNat_natCast]
  exact fullErase_any _ _ _ _ _
theorem erase_er {b : List UInt8} {K : Nat} (h : Er b 0 (512 * K)) (hl : 512 * K + 512 ≤ b.length) : Er (eraseUpto b (512 * K) 512 false 0 0) 0 (512 * (K + 1)) := by
  intro k _ hk
  rw [eraseUpto_at]
  have hkl : k < b.length := by omega
  rw [List.getElem?_eq_getElem hkl]
  by_cases hc : 512 * K ≤ k ∧ k < 512 * K + 512
  · simp only [Option.map_some, if_pos hc, eraseByte, true_or, if_true]
  · have := h k (by omega) (by omega)
    rw [List.getElem?_eq_getElem hkl] at this
    simp only [Option.map_some, if_neg hc]
    exact this
theorem FS.pw_ok : ∀ (f : Nat) (s : FS) (A : Int) (l : List UInt8), s.Ok → (FS.pw f s A l).1.Ok ∧ (FS.pw f s A l).1.n.length = s.n.length
  | 0, s, A, l, h => ⟨h, rfl⟩
  | f + 1, s, A, l, h => by
    by_cases hl : l = []
    · subst hl; rw [FS.pw_nil]; exact ⟨h, rfl⟩
    · rw [FS.pw_step _ _ _ _ hl]
      split
      · exact ⟨FS.program_ok h _ _, FS.program_n _ _ _⟩
      · have := FS.pw_ok f (s.program A (l.take (min l.length (64 - (A % 64).toNat)))).1 (A + (min l.length (64 - (A % 64).toNat) : Nat)) (l.drop (min l.length (64 - (A % 64).toNat))) (FS.program_ok h _ _)
        exact ⟨this.1, this.2.trans (FS.program_n _ _ _)⟩
theorem FS.pwrite_ok {s : FS} (h : s.Ok) (F B at_ : Int) (l : List UInt8) : (s.pwrite F B at_ l).1.Ok ∧ (s.pwrite F B at_ l).1.n.length = s.n.length := by
  unfold FS.pwrite
  split
  · exact FS.pw_ok _ _ _ _ h
  · exact ⟨h, rfl⟩
theorem FS.perase_ok {s : FS} (h : s.Ok) (F B k : Int) : (s.perase F B k).1.Ok ∧ (s.perase F B k).1.n.length = s.n.length := by
  unfold FS.perase
  split
  · exact ⟨FS.erase_ok h _, FS.erase_n _ _⟩
  · exact ⟨h, rfl⟩
/-- What was written is read. -/
theorem read_back {s s' : FS} {B : Int} {A : Nat} {str : ByteArray} (hs : s'.Still) (hin : inB B A str.size = true)
    (h : ∀ k, s'.b[k]? = if A ≤ k ∧ k < A + str.size then str.data.toList[k - A]? else s.b[k]?) : preadV s' 0 B A str.size = (str, 0) := by
  have hl : (s'.b.drop A).take str.size = str.data.toList := by
    apply List.ext_getElem?
    intro k
    rw [List.getElem?_take, List.getElem?_drop]
    by_cases hk : k < str.size
    · rw [if_pos hk, h, if_pos (by omega)]; congr 1; omega
    · rw [if_neg hk, List.getElem?_eq_none (by simp; omega)]
  unfold preadV
  rw [if_pos hin, if_neg (by rw [hs.dead]; decide), show (512 * 0 + (A : Int)).toNat = A by omega, Int.toNat_natCast, hl]
end Go.Proofs.Ytopiopomioglfaa
namespace Go.Proofs.Ytopiopomioglfaa
set_option maxRecDepth 100000
set_option linter.unusedVariables false
open Go Go.RowKit

/-- A part's block is erased, if it is not clean. -/
def FS.wclean (s : FS) (F B : Int) (k : Nat) : FS × Int :=
  if (pcleanV s F B (512 * k : Nat) 512).2 ≠ 0 then (s, (pcleanV s F B (512 * k : Nat) 512).2) else if (pcleanV s F B (512 * k : Nat) 512).1 = true then (s, 0) else s.perase F B k
/-- A page of an image is written: the first of a block erases it. -/
def FS.wpage (s : FS) (F B : Int) (made : Nat) (l : List UInt8) : FS × Int :=
  if made % 512 = 0 then (if (s.wclean F B (made / 512)).2 ≠ 0 then s.wclean F B (made / 512) else (s.wclean F B (made / 512)).1.pwrite F B made l) else s.pwrite F B made l
/-- So many pages from m on. -/
def FS.wto (F B : Int) (all : List UInt8) : Nat → FS → Nat → FS × Int × Nat
  | 0, s, m => (s, 0, m)
  | k + 1, s, m => if (s.wpage F B m ((all.drop m).take 64)).2 ≠ 0 then ((s.wpage F B m ((all.drop m).take 64)).1, (s.wpage F B m ((all.drop m).take 64)).2, m) else FS.wto F B all k (s.wpage F B m ((all.drop m).take 64)).1 (m + 64)

theorem FS.wclean_ok {s : FS} (h : s.Ok) (F B : Int) (k : Nat) : (s.wclean F B k).1.Ok ∧ (s.wclean F B k).1.n.length = s.n.length := by
  unfold FS.wclean
  split
  · exact ⟨h, rfl⟩
  · split
    · exact ⟨h, rfl⟩
    · exact FS.perase_ok h F B k
theorem FS.wpage_ok {s : FS} (h : s.Ok) (F B : Int) (m : Nat) (l : List UInt8) : (s.wpage F B m l).1.Ok ∧ (s.wpage F B m l).1.n.length = s.n.length := by
  unfold FS.wpage
  have hc := FS.wclean_ok h F B (m / 512)
  split
  · split
    · exact hc
    · have := FS.pwrite_ok hc.1 F B m l
      exact ⟨this.1, this.2.trans hc.2⟩
  · exact FS.pwrite_ok h F B m l
theorem FS.wto_ok (F B : Int) (all : List UInt8) : ∀ (k : Nat) (s : FS) (m : Nat), s.Ok → (FS.wto F B all k s m).1.Ok ∧ (FS.wto F B all k s m).1.n.length = s.n.length
  | 0, s, m, h => ⟨h, rfl⟩
  | k + 1, s, m, h => by
    have hp := FS.wpage_ok h F B m ((all.drop m).take 64)
    unfold FS.wto
    split
    · exact hp
    · have := FS.wto_ok F B all k (s.wpage F B m ((all.drop m).take 64)).1 (m + 64) hp.1
      exact ⟨this.1, this.2.trans hp.2⟩
/-- Behind pages that were written, the next ones. -/
theorem FS.wto_add (F B : Int) (all : List UInt8) : ∀ (k j : Nat) (s : FS) (m : Nat), FS.wto F B all (k + j) s m = if (FS.wto F B all k s m).2.1 ≠ 0 then FS.wto F B all k s m else FS.wto F B all j (FS.wto F B all k s m).1 (FS.wto F B all k s m).2.2
  | 0, j, s, m => by rw [Nat.zero_add]; simp [FS.wto]
  | k + 1, j, s, m => by
    rw [show k + 1 + j = (k + j) + 1 by omega, FS.wto]
    conv => rhs; rw [FS.wto]
    by_cases h : (s.wpage F B m ((all.drop m).take 64)).2 ≠ 0
    · simp only [if_pos h]
    · simp only [if_neg h]
      exact FS.wto_add F B all k j _ _
/-- Only the bytes that are written matter. -/
theorem FS.wto_more (F B : Int) (all l : List UInt8) : ∀ (k : Nat) (s : FS) (m : Nat), m + 64 * k ≤ all.length → FS.wto F B (all ++ l) k s m = FS.wto F B all k s m
  | 0, s, m, h => rfl
  | k + 1, s, m, h => by
    have e : ((all ++ l).drop m).take 64 = (all.drop m).take 64 := by
      rw [List.drop_append_of_le_length (by omega), List.take_append_of_le_length (by rw [List.length_drop]; omega)]
    rw [FS.wto, FS.wto, e]
    split
    · rfl
    · exact FS.wto_more F B all l k _ _ (by omega)

/-- What a part's bytes are that are told clean; that are not: the block is erased. -/
theorem ffs_lt (l : List UInt8) (h : ((ffs ⟨l.toArray⟩ : Nat) : Int) = (l.length : Nat)) : ∀ k, k < l.length → l[k]? = some 255 := by
  intro k hk
  have h : l.count 255 = l.length := by have h' : ffs ⟨l.toArray⟩ = l.length := by omega
                                        exact h'
  have := List.count_eq_length.1 h l[k] (List.getElem_mem hk)
  rw [List.getElem?_eq_getElem hk, ← this]
structure Cleaned (s : FS) (A : Nat) (r : FS × Int) : Prop where
  ok : r.2 = 0
  o : r.1.Ok
  still : r.1.Still
  n : r.1.n.length = s.n.length
  len : r.1.b.length = s.b.length
  er : Er r.1.b A 512
  out : ∀ k, (k < A ∨ A + 512 ≤ k) → r.1.b[k]? = s.b[k]?
theorem wclean_still {s : FS} (h : s.Still) (hok : s.Ok) (F B k : Nat) (hk : k < B) (hF : F + B ≤ s.n.length) : Cleaned s (512 * F + 512 * k) (s.wclean F B k) := by
  have hlen := hok.len
  have hin : inB B (512 * k : Nat) 512 = true := by rw [inB_iff]; omega
  have e : preadV s F B (512 * k : Nat) 512 = (⟨((s.b.drop (512 * F + 512 * k)).take 512).toArray⟩, 0) := by
    unfold preadV
    rw [if_pos hin, if_neg (by rw [h.dead]; decide), show (512 * (F : Int) + ((512 * k : Nat) : Int)).toNat = 512 * F + 512 * k by omega]
    rfl
  have hl : ((s.b.drop (512 * F + 512 * k)).take 512).length = 512 := by rw [List.length_take, List.length_drop]; omega
  have ev : pcleanV s F B (512 * k : Nat) 512 = (((ffs ⟨((s.b.drop (512 * F + 512 * k)).take 512).toArray⟩ : Nat) : Int) == ((((s.b.drop (512 * F + 512 * k)).take 512).length : Nat) : Int), 0) := by
    unfold pcleanV
    rw [e]
    simp only [if_true]
    rfl
  unfold FS.wclean
  rw [if_neg (by rw [ev]; simp), ev]
  dsimp only
  by_cases hc : ((ffs ⟨((s.b.drop (512 * F + 512 * k)).take 512).toArray⟩ : Nat) : Int) = ((((s.b.drop (512 * F + 512 * k)).take 512).length : Nat) : Int)
  · rw [if_pos (by rw [beq_iff_eq]; exact hc)]
    have ha := ffs_lt _ hc
    rw [hl] at ha
    refine ⟨rfl, hok, h, rfl, rfl, fun j h1 h2 => ?_, fun _ _ => rfl⟩
    have := ha (j - (512 * F + 512 * k)) (by omega)
    rw [List.getElem?_take, if_pos (by omega), List.getElem?_drop] at this
    rw [← this]; congr 1; omega
  · rw [if_neg (by rw [beq_iff_eq]; exact hc)]
    have hp : s.perase F B k = s.erase ((F + k : Nat) : Int) := by
      unfold FS.perase; rw [if_pos (by omega)]; congr 1
    obtain ⟨e1, e2, e3, e4⟩ := still_erase h (F + k) (by omega)
    rw [hp]
    have o := FS.erase_ok hok ((F + k : Nat) : Int)
    refine ⟨e1, o, e2, e3, by rw [e4, eraseUpto_length], fun j h1 h2 => ?_, fun j hj => ?_⟩
    · rw [e4, eraseUpto_at, List.getElem?_eq_getElem (by omega)]
      rw [Option.map_some, if_pos (by omega)]
      simp [eraseByte]
    · rw [e4, eraseUpto_at]
      cases s.b[j]? with
      | none => rfl
      | some v => rw [Option.map_some, if_neg (by omega)]

/-- So many bytes of an image lie in a part; the block in which it ends is erased behind them; nothing else is another one. -/
structure Laid (s0 s : FS) (F : Nat) (all : List UInt8) (m : Nat) : Prop where
  ok : s.Ok
  still : s.Still
  n : s.n.length = s0.n.length
  len : s.b.length = s0.b.length
  at_ : ∀ i, i < m → s.b[512 * F + i]? = all[i]?
  er : m % 512 ≠ 0 → Er s.b (512 * F + m) (512 - m % 512)
  lo : ∀ k, k < 512 * F → s.b[k]? = s0.b[k]?
  hi : ∀ k, 512 * F + 512 * ((m + 511) / 512) ≤ k → s.b[k]? = s0.b[k]?
theorem Laid.start {s : FS} (h : s.Still) (hok : s.Ok) (F : Nat) (all : List UInt8) : Laid s s F all 0 :=
  ⟨hok, h, rfl, rfl, fun i hi => by omega, fun h => by omega, fun _ _ => rfl, fun _ _ => rfl⟩
theorem Laid.more {s0 s : FS} {F m : Nat} {all : List UInt8} (h : Laid s0 s F all m) (l : List UInt8) (hm : m ≤ all.length) : Laid s0 s F (all ++ l) m :=
  ⟨h.ok, h.still, h.n, h.len, fun i hi => by rw [h.at_ i hi, List.getElem?_append_left (by omega)], h.er, h.lo, h.hi⟩
theorem Laid.page {s0 s : FS} {F m : Nat} {all : List UInt8} (h : Laid s0 s F all m) (B : Nat) (hF : F + B ≤ s0.n.length) (hm : m % 64 = 0) (l : List UInt8) (hl1 : 1 ≤ l.length) (hl2 : l.length ≤ 64) (hB : m + l.length ≤ 512 * B)
    (hat : ∀ j, j < l.length → l[j]? = all[m + j]?) : (s.wpage F B m l).2 = 0 ∧ Laid s0 (s.wpage F B m l).1 F all (m + l.length) := by
  have hlen := h.ok.len
  have hn := h.n
  -- the block is erased from m on
  obtain ⟨s1, hs1, e1, o1, st1, n1, len1, er1, at1, lo1, hi1⟩ : ∃ s1 : FS, (s.wpage F B m l = s1.pwrite F B m l) ∧ True ∧ s1.Ok ∧ s1.Still ∧ s1.n.length = s0.n.length ∧ s1.b.length = s0.b.length ∧ Er s1.b (512 * F + m) (512 - m % 512) ∧
      (∀ i, i < m → s1.b[512 * F + i]? = all[i]?) ∧ (∀ k, k < 512 * F → s1.b[k]? = s0.b[k]?) ∧ (∀ k, 512 * F + 512 * (m / 512 + 1) ≤ k → s1.b[k]? = s0.b[k]?) := by
    by_cases hb : m % 512 = 0
    · have c := wclean_still h.still h.ok F B (m / 512) (by omega) (by omega)
      refine ⟨(s.wclean F B (m / 512)).1, ?_, trivial, c.o, c.still, c.n.trans hn, c.len.trans h.len, ?_, fun i hi => ?_, fun k hk => ?_, fun k hk => ?_⟩
      · unfold FS.wpage; rw [if_pos hb, if_neg (by rw [c.ok]; simp)]
      · have := c.er
        rw [show 512 * (m / 512) = m by omega] at this
        rw [hb]; exact this
      · rw [c.out _ (by omega)]; exact h.at_ i hi
      · rw [c.out _ (by omega)]; exact h.lo k hk
      · rw [c.out _ (by omega)]; exact h.hi k (by omega)
    · refine ⟨s, ?_, trivial, h.ok, h.still, hn, h.len, h.er hb, h.at_, h.lo, fun k hk => h.hi k (by omega)⟩
      unfold FS.wpage; rw [if_neg hb]
  have hlen1 := o1.len
  have hin : inB B m l.length = true := by rw [inB_iff]; omega
  have hp : s1.pwrite F B m l = FS.pw l.length s1 ((512 * F + m : Nat) : Int) l := by
    unfold FS.pwrite; rw [if_pos hin]; congr 1
  have w := pw_erased l.length s1 (512 * F + m) l st1 (Nat.le_refl _) (by omega) (fun k h1 h2 => er1 k h1 (by omega))
  rw [← hp, ← hs1] at w
  have ok2 : (s.wpage F B m l).1.Ok := (FS.wpage_ok h.ok F B m l).1
  refine ⟨w.ok, ok2, w.still, by rw [w.n]; exact n1, by rw [w.len]; exact len1, fun i hi => ?_, fun hne => fun k h1 h2 => ?_, fun k hk => ?_, fun k hk => ?_⟩
  · rw [w.at_]
    by_cases hi2 : i < m
    · rw [if_neg (by omega)]; exact at1 i hi2
    · rw [if_pos (by omega), show 512 * F + i - (512 * F + m) = i - m by omega, hat (i - m) (by omega), show m + (i - m) = i by omega]
  · rw [w.at_, if_neg (by omega)]
    exact er1 k (by omega) (by omega)
  · rw [w.at_, if_neg (by omega)]; exact lo1 k hk
  · rw [w.at_, if_neg (by omega)]; exact hi1 k (by omega)
theorem Laid.pages {s0 : FS} {F B : Nat} {all : List UInt8} (hF : F + B ≤ s0.n.length) (hB : all.length ≤ 512 * B) : ∀ (k : Nat) (s : FS) (m : Nat), Laid s0 s F all m → m % 64 = 0 → m + 64 * k ≤ all.length →
    (FS.wto F B all k s m).2.1 = 0 ∧ (FS.wto F B all k s m).2.2 = m + 64 * k ∧ Laid s0 (FS.wto F B all k s m).1 F all (m + 64 * k)
  | 0, s, m, h, _, _ => ⟨rfl, rfl, h⟩
  | k + 1, s, m, h, hm, hk => by
    have hl : ((all.drop m).take 64).length = 64 := by rw [List.length_take, List.length_drop]; omega
    obtain ⟨h1, h2⟩ := h.page B hF hm ((all.drop m).take 64) (by omega) (by omega) (by omega) (fun j hj => by rw [List.getElem?_take, if_pos (by omega), List.getElem?_drop])
    rw [hl] at h2
    rw [FS.wto, if_neg (by rw [h1]; simp)]
    obtain ⟨a, b, c⟩ := Laid.pages hF hB k _ _ h2 (by omega) (by omega)
    exact ⟨a, b.trans (by omega), by rw [show m + 64 * (k + 1) = m + 64 + 64 * k by omega]; exact c⟩

/-- A writer's state: the bytes that came, how many of them were written, how many it tells, its end, its error. -/
structure WS where
  all : List UInt8
  made : Nat
  came : Nat
  ended : Bool
  e : Int
def WS.new : WS := ⟨[], 0, 0, false, 0⟩
def WS.write (F B : Int) (s : FS) (ws : WS) (l : List UInt8) : FS × WS × Int :=
  if ws.e ≠ 0 then (s, ws, ws.e)
  else if ws.ended = true then (s, ws, 240)
  else if 512 * B < ((ws.all.length + l.length : Nat) : Int) then (s, { ws with e := 241 }, 241)
  else
    ((FS.wto F B (ws.all ++ l) ((ws.all ++ l).length / 64 - ws.made / 64) s ws.made).1,
      { ws with all := ws.all ++ l, made := (FS.wto F B (ws.all ++ l) ((ws.all ++ l).length / 64 - ws.made / 64) s ws.made).2.2,
                came := if (FS.wto F B (ws.all ++ l) ((ws.all ++ l).length / 64 - ws.made / 64) s ws.made).2.1 = 0 then (ws.all ++ l).length else ws.came,
                e := (FS.wto F B (ws.all ++ l) ((ws.all ++ l).length / 64 - ws.made / 64) s ws.made).2.1 },
      (FS.wto F B (ws.all ++ l) ((ws.all ++ l).length / 64 - ws.made / 64) s ws.made).2.1)
def WS.fin (F B : Int) (s : FS) (ws : WS) : FS × WS × Int :=
  if ws.e ≠ 0 then (s, ws, ws.e)
  else if ws.ended = true then (s, ws, 240)
  else if ws.all.length > ws.made then
    ((s.wpage F B ws.made (ws.all.drop ws.made)).1, { ws with ended := true, made := if (s.wpage F B ws.made (ws.all.drop ws.made)).2 = 0 then ws.all.length else ws.made, e := (s.wpage F B ws.made (ws.all.drop ws.made)).2 }, (s.wpage F B ws.made (ws.all.drop ws.made)).2)
  else (s, { ws with ended := true }, 0)
/-- What is always true of a writer. -/
structure WS.Ok (B : Int) (ws : WS) : Prop where
  came : 0 ≤ (ws.came : Int) ∧ (ws.came : Int) ≤ 512 * B
  made : ws.made ≤ ws.all.length
  all : (ws.all.length : Int) ≤ 512 * B
  run : ws.e = 0 → ws.came = ws.all.length ∧ (ws.ended = false → ws.made = 64 * (ws.all.length / 64))
theorem FS.wto_made (F B : Int) (all : List UInt8) : ∀ (k : Nat) (s : FS) (m : Nat), (FS.wto F B all k s m).2.2 ≤ m + 64 * k ∧ ((FS.wto F B all k s m).2.1 = 0 → (FS.wto F B all k s m).2.2 = m + 64 * k)
  | 0, s, m => ⟨Nat.le_refl _, fun _ => rfl⟩
  | k + 1, s, m => by
    rw [FS.wto]
    split
    · rename_i h
      exact ⟨by simp only; omega, fun h' => absurd h' h⟩
    · have := FS.wto_made F B all k (s.wpage F B m ((all.drop m).take 64)).1 (m + 64)
      exact ⟨by omega, fun h => by rw [this.2 h]; omega⟩
theorem WS.new_ok {B : Int} (h : 0 ≤ B) : (WS.new).Ok B := ⟨by simp [WS.new]; omega, Nat.le_refl _, by simp [WS.new]; omega, fun _ => ⟨rfl, fun _ => rfl⟩⟩
theorem WS.write_ok {F B : Int} {s : FS} {ws : WS} (hs : s.Ok) (h : ws.Ok B) (l : List UInt8) : (ws.write F B s l).1.Ok ∧ (ws.write F B s l).1.n.length = s.n.length ∧ (ws.write F B s l).2.1.Ok B := by
  unfold WS.write
  split
  · exact ⟨hs, rfl, h⟩
  · rename_i he
    have he : ws.e = 0 := by simpa using he
    split
    · exact ⟨hs, rfl, h⟩
    · rename_i hn
      have hn : ws.ended = false := by simpa using hn
      split
      · exact ⟨hs, rfl, h.came, h.made, h.all, fun h => by simp at h⟩
      · rename_i hf
        obtain ⟨hr1, hr2⟩ := h.run he
        have hr2 := hr2 hn
        have hm := FS.wto_made F B (ws.all ++ l) ((ws.all ++ l).length / 64 - ws.made / 64) s ws.made
        have ho := FS.wto_ok F B (ws.all ++ l) ((ws.all ++ l).length / 64 - ws.made / 64) s ws.made hs
        have hl : (ws.all ++ l).length = ws.all.length + l.length := List.length_append ..
        generalize FS.wto F B (ws.all ++ l) ((ws.all ++ l).length / 64 - ws.made / 64) s ws.made = r at hm ho ⊢
        refine ⟨ho.1, ho.2, ⟨?_, ?_, ?_, fun he2 => ⟨?_, fun _ => ?_⟩⟩⟩
        · have := h.came
          dsimp only
          split <;> omega
        · dsimp only; omega
        · dsimp only; omega
        · dsimp only at he2 ⊢; rw [if_pos he2]
        · dsimp only at he2 ⊢; rw [hm.2 he2]; omega
theorem WS.fin_ok {F B : Int} {s : FS} {ws : WS} (hs : s.Ok) (h : ws.Ok B) : (ws.fin F B s).1.Ok ∧ (ws.fin F B s).1.n.length = s.n.length ∧ (ws.fin F B s).2.1.Ok B := by
  unfold WS.fin
  split
  · exact ⟨hs, rfl, h⟩
  · rename_i he
    have he : ws.e = 0 := by simpa using he
    split
    · exact ⟨hs, rfl, h⟩
    · rename_i hn
      have hn : ws.ended = false := by simpa using hn
      split
      · have ho := FS.wpage_ok hs F B ws.made (ws.all.drop ws.made)
        refine ⟨ho.1, ho.2, ⟨h.came, ?_, h.all, fun he2 => ⟨?_, fun h => by cases h⟩⟩⟩
        · dsimp only; split
          · exact Nat.le_refl _
          · exact h.made
        · exact (h.run he).1
      · exact ⟨hs, rfl, h.came, h.made, h.all, fun he2 => ⟨(h.run he).1, fun h => by cases h⟩⟩
end Go.Proofs.Ytopiopomioglfaa
namespace Go.Proofs.Ytopiopomioglfaa
set_option maxRecDepth 100000
set_option linter.unusedVariables false
open Go Go.RowKit

/-- The world has grown: what was there stands. -/
def Gr (w w' : World) : Prop := Below w.heap.size w w'
theorem Gr.refl (w : World) : Gr w w := Below.refl _ _
theorem Gr.size {w w' : World} (h : Gr w w') : w.heap.size ≤ w'.heap.size := Below.size h
theorem Gr.trans {a b c : World} (h : Gr a b) (k : Gr b c) : Gr a c := Below.trans h (Below.mono k h.size)
theorem Gr.alloc (w : World) (o : Obj) : Gr w (w.alloc o) := (Below.refl _ _).alloc (Nat.le_refl _) o
theorem Gr.block {w w' : World} (h : Gr w w') {b : Nat} {x : Obj} (hb : w.heap[b]? = some x) : w'.heap[b]? = some x :=
  (Below.block h b (Array.getElem?_eq_some_iff.1 hb).1).trans hb
theorem Gr.lt {w w' : World} (h : Gr w w') {b : Nat} (hb : b < w.heap.size) : b < w'.heap.size := Nat.lt_of_lt_of_le hb h.size
theorem Gr.below {w w' : World} (h : Gr w w') : Below w.heap.size w w' := h
theorem Gr.of {w w' : World} (h : Below w.heap.size w w') : Gr w w' := h
theorem Gr.blt {w : World} {b : Nat} {x : Obj} (hb : w.heap[b]? = some x) : b < w.heap.size := (Array.getElem?_eq_some_iff.1 hb).1

theorem Gr.setRow {w w' : World} (h : Gr w w') {b : Nat} (hb : w.heap.size ≤ b) (cs : Array Value) : Gr w (w'.setRow b cs) := below_setRow h hb cs
/-- The same but for some blocks. -/
structure GrS (S : List Nat) (w w' : World) : Prop where
  os : w'.os = w.os
  tape : w'.tape = w.tape
  output : w'.output = w.output
  size : w.heap.size ≤ w'.heap.size
  block : ∀ k, k < w.heap.size → k ∉ S → w'.heap[k]? = w.heap[k]?
theorem Gr.toS {w w' : World} (h : Gr w w') (S : List Nat) : GrS S w w' := ⟨h.os, h.tape, h.output, Below.size h, fun k hk _ => Below.block h k hk⟩
theorem GrS.toGr {w w' : World} (h : GrS [] w w') : Gr w w' := ⟨h.os, h.tape, h.output, h.size, fun k hk => h.block k hk (fun h => by cases h)⟩
theorem GrS.refl (S : List Nat) (w : World) : GrS S w w := (Gr.refl w).toS S
theorem GrS.trans {S : List Nat} {a b c : World} (h : GrS S a b) (k : GrS S b c) : GrS S a c :=
  ⟨k.os.trans h.os, k.tape.trans h.tape, k.output.trans h.output, Nat.le_trans h.size k.size, fun i hi hn => (k.block i (Nat.lt_of_lt_of_le hi h.size) hn).trans (h.block i hi hn)⟩
theorem GrS.at {S : List Nat} {w w' : World} (h : GrS S w w') {b : Nat} (hn : b ∉ S) {x : Obj} (hb : w.heap[b]? = some x) : w'.heap[b]? = some x :=
  (h.block b (Array.getElem?_eq_some_iff.1 hb).1 hn).trans hb
theorem GrS.lt {S : List Nat} {w w' : World} (h : GrS S w w') {b : Nat} (hb : b < w.heap.size) : b < w'.heap.size := Nat.lt_of_lt_of_le hb h.size
theorem GrS.setRow {S : List Nat} {w w' : World} (h : GrS S w w') {b : Nat} (hb : w.heap.size ≤ b ∨ b ∈ S) (cs : Array Value) : GrS S w (w'.setRow b cs) :=
  ⟨by rw [setRow_os]; exact h.os, by rw [setRow_tape]; exact h.tape, by rw [setRow_output]; exact h.output, by rw [setRow_size]; exact h.size, fun k hk hn => by
    rw [setRow_other _ _ _ _ (fun e => by
      rcases hb with hb | hb
      · omega
      · exact hn (e ▸ hb))]; exact h.block k hk hn⟩
/-- .. or but for some blocks that are new. -/
def GrD (S N : List Nat) (w w' : World) : Prop := ∃ D, (∀ d ∈ D, d ∈ N) ∧ GrS (S ++ D) w w'
theorem GrS.d {S N : List Nat} {w w' : World} (h : GrS S w w') : GrD S N w w' := ⟨[], (fun _ h => by cases h), by rw [List.append_nil]; exact h⟩
theorem GrD.sub {S N N' : List Nat} {w w' : World} (h : GrD S N w w') (hn : ∀ b, b ∈ N → b ∈ N') : GrD S N' w w' := by
  obtain ⟨D, h1, h2⟩ := h
  exact ⟨D, fun d hd => hn d (h1 d hd), h2⟩
theorem GrD.size {S N : List Nat} {w w' : World} (h : GrD S N w w') : w.heap.size ≤ w'.heap.size := h.elim fun _ h => h.2.size
theorem GrD.lt {S N : List Nat} {w w' : World} (h : GrD S N w w') {b : Nat} (hb : b < w.heap.size) : b < w'.heap.size := Nat.lt_of_lt_of_le hb h.size
theorem GrD.at {S N : List Nat} {w w' : World} (h : GrD S N w w') {b : Nat} (hn : b ∉ S) (hn' : b ∉ N) {x : Obj} (hb : w.heap[b]? = some x) : w'.heap[b]? = some x := by
  obtain ⟨D, h1, h2⟩ := h
  exact h2.at (fun h => (List.mem_append.1 h).elim hn (fun h => hn' (h1 _ h))) hb
theorem GrD.trans {S N : List Nat} {a b c : World} (h : GrS S a b) (k : GrD S N b c) (hn : ∀ x ∈ N, a.heap.size ≤ x) : GrS S a c := by
  obtain ⟨D, h1, h2⟩ := k
  exact ⟨h2.os.trans h.os, h2.tape.trans h.tape, h2.output.trans h.output, Nat.le_trans h.size h2.size, fun i hi hs => (h2.block i (Nat.lt_of_lt_of_le hi h.size) (fun hm => (List.mem_append.1 hm).elim hs (fun hm => by have := hn i (h1 i hm); omega))).trans (h.block i hi hs)⟩
/-- What an operation of a region is: it yields one value in every world; it is a call; it makes a block. -/
inductive Kd where
  | flo
  | cha
  | new (X : Obj)
def Kd.isFlo : Kd → Bool | .flo => true | _ => false
def Kd.isCha : Kd → Bool | .cha => true | _ => false
/-- What stays true as the world grows. -/
def Stb (F : World → Prop) : Prop := ∀ w w', Gr w w' → F w → F w'

section
variable {P : Program} {W : World} {S : List Nat} {ops : Array Oper}

def yieldsG (P : Program) (W : World) (S : List Nat) (o : Oper) (a : Act) (v : Value) : Prop := ∀ w, GrS S W w → (execOp a.eval o).run P w = .ok (.value v) w ∨ ((execOp a.eval o).run P w = .ok .skip w ∧ v = undef)
def makesG (P : Program) (W : World) (S : List Nat) (o : Oper) (a : Act) (X : Obj) : Prop :=
  ∀ w, GrS S W w → (execOp a.eval o).run P w = .ok (.value (.pointer (some ⟨w.heap.size, 0, none⟩))) (w.alloc X)
/-- A call that comes back, or a store. -/
def steps (P : Program) (S : List Nat) (o : Oper) (a : Act) (w : World) (R : Value → World → Prop) : Prop :=
  (∃ f args, (execOp a.eval o).run P w = .ok (.enter f args) w ∧ Calls P f args w (fun e w' => ∃ v, e = .returned v ∧ R v w')) ∨
  (∃ w', (execOp a.eval o).run P w = .ok .skip w' ∧ R undef w') ∨ (∃ v w', (execOp a.eval o).run P w = .ok (.value v) w' ∧ R v w')
theorem steps.mono {o : Oper} {a : Act} {w : World} {R R' : Value → World → Prop} (h : steps P S o a w R) (hr : ∀ v w', R v w' → R' v w') : steps P S o a w R' := by
  rcases h with ⟨f, args, he, hc⟩ | ⟨w', he, h⟩ | ⟨v, w', he, h⟩
  · exact .inl ⟨f, args, he, hc.mono fun _ _ ⟨v, hv, h⟩ => ⟨v, hv, hr _ _ h⟩⟩
  · exact .inr (.inl ⟨w', he, hr _ _ h⟩)
  · exact .inr (.inr ⟨v, w', he, hr _ _ h⟩)
theorem steps.some {o : Oper} {a : Act} {w : World} {R : Value → World → Prop} (h : steps P S o a w R) : ∃ v w', R v w' := by
  rcases h with ⟨f, args, _, hc⟩ | ⟨w', _, h⟩ | ⟨v, w', _, h⟩
  · obtain ⟨_, w', _, ⟨v, _, h⟩, _⟩ := hc []
    exact ⟨v, w', h⟩
  · exact ⟨_, w', h⟩
  · exact ⟨_, w', h⟩
theorem steps.congr {o : Oper} {a a' : Act} {w : World} {R : Value → World → Prop} (he : execOp a'.eval o = execOp a.eval o) (h : steps P S o a w R) : steps P S o a' w R := by
  unfold steps at h ⊢; rw [he]; exact h
theorem steps.wp {o : Oper} {a : Act} {w : World} {R : Value → World → Prop} {K : Act → World → Prop} {Q : Exit → Act → World → Prop} (h : steps P S o a w R) (hk : ∀ v w', R v w' → K (a.put o.dst v) w') : o.wp P a w K Q := by
  unfold Oper.wp
  rcases h with ⟨f, args, he, hc⟩ | ⟨w', he, h⟩ | ⟨v, w', he, h⟩
  · rw [he]; exact hc.mono fun e w' ⟨v, hv, h⟩ => by subst hv; exact hk _ _ h
  · rw [he]; exact hk _ _ h
  · rw [he]; exact hk _ _ h
def wpG (P : Program) (W : World) (S : List Nat) (T : (World → Prop) → List Nat → Act → Prop) : List (Oper × Kd) → (World → Prop) → List Nat → Act → Prop
  | [], F, N, a => T F N a
  | (o, .flo) :: L, F, N, a => ∃ v, yieldsG P W S o a v ∧ wpG P W S T L F N (a.put o.dst v)
  | (o, .new X) :: L, F, N, a => makesG P W S o a X ∧ ∀ b, W.heap.size ≤ b → b ∉ N → wpG P W S T L (fun w => F w ∧ w.heap[b]? = some X) (b :: N) (a.put o.dst (.pointer (some ⟨b, 0, none⟩)))
  | (o, .cha) :: L, F, N, a => ∀ w, GrS S W w → F w → steps P S o a w (fun v w' => GrD S N w w' ∧ ∃ F' N', Stb F' ∧ F' w' ∧ (∀ b ∈ N', w.heap.size ≤ b ∧ b < w'.heap.size) ∧ wpG P W S T L F' (N' ++ N) (a.put o.dst v))

theorem Stb.tt : Stb (fun _ => True) := fun _ _ _ _ => trivial
theorem Stb.row (b : Nat) (X : Obj) : Stb (fun w => True ∧ w.heap[b]? = some X) := fun _ _ hg h => ⟨trivial, hg.block h.2⟩
theorem Stb.new {F : World → Prop} (h : Stb F) (b : Nat) (X : Obj) : Stb (fun w => F w ∧ w.heap[b]? = some X) :=
  fun w w' hg ⟨h1, h2⟩ => ⟨h w w' hg h1, hg.block h2⟩
theorem wpG_sub {P : Program} {W : World} {S : List Nat} {T : (World → Prop) → List Nat → Act → Prop} (hT : ∀ F N N' a, (∀ b, b ∈ N → b ∈ N') → T F N a → T F N' a) : ∀ (L : List (Oper × Kd)) (F : World → Prop) (N N' : List Nat) (a : Act), (∀ b, b ∈ N → b ∈ N') → wpG P W S T L F N a → wpG P W S T L F N' a
  | [], F, N, N', a, h, hg => hT F N N' a h hg
  | (o, .flo) :: L, F, N, N', a, h, ⟨v, hv, hg⟩ => ⟨v, hv, wpG_sub hT L F N N' _ h hg⟩
  | (o, .new X) :: L, F, N, N', a, h, ⟨hm, hg⟩ => ⟨hm, fun b hb hn => wpG_sub hT L _ (b :: N) (b :: N') _ (fun c hc => by
      rcases List.mem_cons.1 hc with h' | h'
      · exact h' ▸ List.mem_cons_self
      · exact List.mem_cons_of_mem _ (h c h')) (hg b hb (fun h' => hn (h b h')))⟩
  | (o, .cha) :: L, F, N, N', a, h, hg => fun w hw hF => by
    refine (hg w hw hF).mono fun v w' ⟨hgr, F', M, hs, hF', hl, h'⟩ => ⟨hgr.sub h, F', M, hs, hF', hl, wpG_sub hT L F' (M ++ N) (M ++ N') _ (fun b hb => ?_) h'⟩
    rcases List.mem_append.1 hb with h' | h'
    · exact List.mem_append_left _ h'
    · exact List.mem_append_right _ (h b h')
theorem and_swap3 (F : World → Prop) (p q : World → Prop) : (fun w => (F w ∧ p w) ∧ q w) = (fun w => (F w ∧ q w) ∧ p w) := by
  funext w; exact propext ⟨fun ⟨⟨a, b⟩, c⟩ => ⟨⟨a, c⟩, b⟩, fun ⟨⟨a, b⟩, c⟩ => ⟨⟨a, c⟩, b⟩⟩

structure Apt (ops : Array Oper) (j i : Oper) : Prop where
  ap : j.apart ops i = true
  sj : ∀ cs b, j.op ≠ .select cs b
  si : ∀ cs b, i.op ≠ .select cs b
theorem Apt.exec_i {i j : Oper} (h : Apt ops j i) (a : Act) (u : Value) : execOp (a.put j.dst u).eval i = execOp a.eval i :=
  execOp_put i h.si a j.dst u (Oper.apart_spec h.ap).1
theorem Apt.exec_j {i j : Oper} (h : Apt ops j i) (a : Act) (u : Value) : execOp (a.put i.dst u).eval j = execOp a.eval j :=
  execOp_put j h.sj a i.dst u (Oper.apart_spec h.ap).2.2
theorem Apt.comm {i j : Oper} (h : Apt ops j i) (a : Act) (u v : Value) : (a.put j.dst u).put i.dst v = (a.put i.dst v).put j.dst u :=
  Act.put_comm a u v (Oper.apart_spec h.ap).2.1

variable {T : (World → Prop) → List Nat → Act → Prop} {oi : Oper}


/-- What is known of a world on the way. -/
structure Known (W : World) (S : List Nat) (F : World → Prop) (N : List Nat) (w : World) : Prop where
  st : Stb F
  gr : GrS S W w
  fa : F w
  lt : ∀ b ∈ N, b < w.heap.size
  ge : ∀ b ∈ N, W.heap.size ≤ b
theorem Known.new {F : World → Prop} {N : List Nat} {w : World} (h : Known W S F N w) (X : Obj) : Known W S (fun x => F x ∧ x.heap[w.heap.size]? = some X) (w.heap.size :: N) (w.alloc X) :=
  ⟨h.st.new _ X, h.gr.trans ((Gr.alloc _ _).toS S), ⟨h.st _ _ (Gr.alloc _ _) h.fa, heap_alloc_new _ _⟩, fun b hb => by
    rcases List.mem_cons.1 hb with h' | h'
    · subst h'; simp
    · have := h.lt b h'; simp; omega, fun b hb => by
    rcases List.mem_cons.1 hb with h' | h'
    · subst h'; exact h.gr.size
    · exact h.ge b h'⟩
theorem Known.fresh {F : World → Prop} {N : List Nat} {w : World} (h : Known W S F N w) : w.heap.size ∉ N := fun hb => Nat.lt_irrefl _ (h.lt _ hb)
theorem Known.call {F F' : World → Prop} {N M : List Nat} {w w' : World} (h : Known W S F N w) (hg : GrD S N w w') (hs : Stb F') (hF : F' w') (hl : ∀ b ∈ M, w.heap.size ≤ b ∧ b < w'.heap.size) : Known W S F' (M ++ N) w' :=
  ⟨hs, hg.trans h.gr h.ge, hF, fun b hb => by
    rcases List.mem_append.1 hb with h' | h'
    · exact (hl b h').2
    · exact hg.lt (h.lt b h'), fun b hb => by
    rcases List.mem_append.1 hb with h' | h'
    · exact Nat.le_trans h.gr.size (hl b h').1
    · exact h.ge b h'⟩

theorem ex_flo {B : List (Oper × Kd)} : ∀ (A : List (Oper × Kd)), (∀ p ∈ A, Apt ops p.1 oi) → ∀ (F : World → Prop) (N : List Nat) (a : Act) (w : World), Known W S F N w → wpG P W S T (A ++ (oi, .flo) :: B) F N a → ∃ v, yieldsG P W S oi a v
  | [], _, _, _, _, _, _, ⟨v, h, _⟩ => ⟨v, h⟩
  | (oj, .flo) :: A, hA, F, N, a, w, hk, ⟨u, _, h⟩ => by
    obtain ⟨v, hv⟩ := ex_flo A (fun p hp => hA p (List.mem_cons_of_mem _ hp)) F N _ w hk h
    exact ⟨v, fun x hx => by have := hv x hx; rwa [(hA _ List.mem_cons_self).exec_i] at this⟩
  | (oj, .new X) :: A, hA, F, N, a, w, hk, ⟨_, h⟩ => by
    obtain ⟨v, hv⟩ := ex_flo A (fun p hp => hA p (List.mem_cons_of_mem _ hp)) _ _ _ (w.alloc X) (hk.new X) (h w.heap.size hk.gr.size hk.fresh)
    exact ⟨v, fun x hx => by have := hv x hx; rwa [(hA _ List.mem_cons_self).exec_i] at this⟩
  | (oj, .cha) :: A, hA, F, N, a, w, hk, h => by
    obtain ⟨u, w', hg, F', M, hs', hF', hl, h'⟩ := (h w hk.gr hk.fa).some
    obtain ⟨v, hv⟩ := ex_flo A (fun p hp => hA p (List.mem_cons_of_mem _ hp)) F' _ _ w' (hk.call hg hs' hF' hl) h'
    exact ⟨v, fun x hx => by have := hv x hx; rwa [(hA _ List.mem_cons_self).exec_i] at this⟩

theorem rem_flo {v : Value} {B : List (Oper × Kd)} : ∀ (A : List (Oper × Kd)), (∀ p ∈ A, Apt ops p.1 oi) → ∀ (F : World → Prop) (N : List Nat) (a : Act), yieldsG P W S oi a v → wpG P W S T (A ++ (oi, .flo) :: B) F N a → wpG P W S T (A ++ B) F N (a.put oi.dst v)
  | [], _, _, _, a, hv, ⟨v', h', hg⟩ => by
    have e : v = v' := by
      rcases hv W (GrS.refl _ _) with h1 | ⟨h1, e1⟩ <;> rcases h' W (GrS.refl _ _) with h2 | ⟨h2, e2⟩ <;> rw [h1] at h2
      · injection h2 with h3; injection h3
      · injection h2 with h3; cases h3
      · injection h2 with h3; cases h3
      · rw [e1, e2]
    subst e
    exact hg
  | (oj, .flo) :: A, hA, F, N, a, hv, ⟨u, hu, h⟩ => by
    have hj := hA _ List.mem_cons_self
    refine ⟨u, fun x hx => by rw [hj.exec_j]; exact hu x hx, ?_⟩
    rw [← hj.comm]
    exact rem_flo A (fun p hp => hA p (List.mem_cons_of_mem _ hp)) F N _ (fun x hx => by rw [hj.exec_i]; exact hv x hx) h
  | (oj, .new X) :: A, hA, F, N, a, hv, ⟨hm, h⟩ => by
    have hj := hA _ List.mem_cons_self
    refine ⟨fun x hx => by rw [hj.exec_j]; exact hm x hx, fun b hb hn => ?_⟩
    rw [← hj.comm]
    exact rem_flo A (fun p hp => hA p (List.mem_cons_of_mem _ hp)) _ _ _ (fun x hx => by rw [hj.exec_i]; exact hv x hx) (h b hb hn)
  | (oj, .cha) :: A, hA, F, N, a, hv, h => by
    have hj := hA _ List.mem_cons_self
    intro w hw hF
    refine ((h w hw hF).congr (hj.exec_j _ _)).mono fun u w' ⟨hg, F', M, hs', hF', hl, h'⟩ => ⟨hg, F', M, hs', hF', hl, ?_⟩
    rw [← hj.comm]
    exact rem_flo A (fun p hp => hA p (List.mem_cons_of_mem _ hp)) F' _ _ (fun x hx => by rw [hj.exec_i]; exact hv x hx) h'

theorem ex_new {X : Obj} {B : List (Oper × Kd)} : ∀ (A : List (Oper × Kd)), (∀ p ∈ A, Apt ops p.1 oi) → ∀ (F : World → Prop) (N : List Nat) (a : Act) (w : World), Known W S F N w → wpG P W S T (A ++ (oi, .new X) :: B) F N a → makesG P W S oi a X
  | [], _, _, _, _, _, _, ⟨h, _⟩ => h
  | (oj, .flo) :: A, hA, F, N, a, w, hk, ⟨u, _, h⟩ => by
    have hv := ex_new A (fun p hp => hA p (List.mem_cons_of_mem _ hp)) F N _ w hk h
    exact fun x hx => by have := hv x hx; rwa [(hA _ List.mem_cons_self).exec_i] at this
  | (oj, .new Y) :: A, hA, F, N, a, w, hk, ⟨_, h⟩ => by
    have hv := ex_new A (fun p hp => hA p (List.mem_cons_of_mem _ hp)) _ _ _ (w.alloc Y) (hk.new Y) (h w.heap.size hk.gr.size hk.fresh)
    exact fun x hx => by have := hv x hx; rwa [(hA _ List.mem_cons_self).exec_i] at this
  | (oj, .cha) :: A, hA, F, N, a, w, hk, h => by
    obtain ⟨u, w', hg, F', M, hs', hF', hl, h'⟩ := (h w hk.gr hk.fa).some
    have hv := ex_new A (fun p hp => hA p (List.mem_cons_of_mem _ hp)) F' _ _ w' (hk.call hg hs' hF' hl) h'
    exact fun x hx => by have := hv x hx; rwa [(hA _ List.mem_cons_self).exec_i] at this

theorem rem_new (hT : ∀ F N N' a, (∀ b, b ∈ N → b ∈ N') → T F N a → T F N' a) (hS : ∀ k ∈ S, k < W.heap.size) {X : Obj} {b : Nat} (hb : W.heap.size ≤ b) {B : List (Oper × Kd)} : ∀ (A : List (Oper × Kd)), (∀ p ∈ A, Apt ops p.1 oi) → ∀ (F : World → Prop) (N : List Nat) (a : Act), b ∉ N → wpG P W S T (A ++ (oi, .new X) :: B) F N a →
    wpG P W S T (A ++ B) (fun w => F w ∧ w.heap[b]? = some X) (b :: N) (a.put oi.dst (.pointer (some ⟨b, 0, none⟩)))
  | [], _, _, _, a, hn, ⟨_, h⟩ => h b hb hn
  | (oj, .flo) :: A, hA, F, N, a, hn, ⟨u, hu, h⟩ => by
    have hj := hA _ List.mem_cons_self
    refine ⟨u, fun x hx => by rw [hj.exec_j]; exact hu x hx, ?_⟩
    rw [← hj.comm]
    exact rem_new hT hS hb A (fun p hp => hA p (List.mem_cons_of_mem _ hp)) F N _ hn h
  | (oj, .new Y) :: A, hA, F, N, a, hn, ⟨hm, h⟩ => by
    have hj := hA _ List.mem_cons_self
    refine ⟨fun x hx => by rw [hj.exec_j]; exact hm x hx, fun b' hb' hn' => ?_⟩
    rw [← hj.comm, and_swap3]
    have hne : b' ≠ b := fun h => hn' (h ▸ List.mem_cons_self)
    refine wpG_sub hT _ _ (b :: b' :: N) (b' :: b :: N) _ (fun c hc => ?_) (rem_new hT hS hb A (fun p hp => hA p (List.mem_cons_of_mem _ hp)) _ (b' :: N) _ (fun h => ?_) (h b' hb' (fun h => hn' (List.mem_cons_of_mem _ h))))
    · simp only [List.mem_cons] at hc ⊢; rcases hc with h | h | h <;> simp [h]
    · rcases List.mem_cons.1 h with h' | h'
      · exact hne h'.symm
      · exact hn h'
  | (oj, .cha) :: A, hA, F, N, a, hn, h => by
    have hj := hA _ List.mem_cons_self
    intro w hw hF
    refine ((h w hw hF.1).congr (hj.exec_j _ _)).mono fun u w' ⟨hg, F', M, hs', hF', hl, h'⟩ =>
      ⟨hg.sub (fun _ h => List.mem_cons_of_mem _ h), fun x => F' x ∧ x.heap[b]? = some X, M, hs'.new b X, ⟨hF', hg.at (fun h => Nat.lt_irrefl _ (Nat.lt_of_lt_of_le (hS b h) hb)) hn hF.2⟩, hl, ?_⟩
    rw [← hj.comm]
    have hlt := Gr.blt hF.2
    refine wpG_sub hT _ _ (b :: (M ++ N)) (M ++ b :: N) _ (fun c hc => ?_) (rem_new hT hS hb A (fun p hp => hA p (List.mem_cons_of_mem _ hp)) F' (M ++ N) _ (fun h => ?_) h')
    · simp only [List.mem_cons, List.mem_append] at hc ⊢; rcases hc with h | h | h <;> simp [h]
    · rcases List.mem_append.1 h with h' | h'
      · have := hl b h'; omega
      · exact hn h'

theorem rem_cha {B : List (Oper × Kd)} : ∀ (A : List (Oper × Kd)), (∀ p ∈ A, Apt ops p.1 oi ∧ p.2.isFlo = true) → ∀ (F : World → Prop) (N : List Nat) (a : Act), wpG P W S T (A ++ (oi, .cha) :: B) F N a →
    ∀ w, GrS S W w → F w → steps P S oi a w (fun v w' => GrD S N w w' ∧ ∃ F' M, Stb F' ∧ F' w' ∧ (∀ b ∈ M, w.heap.size ≤ b ∧ b < w'.heap.size) ∧ wpG P W S T (A ++ B) F' (M ++ N) (a.put oi.dst v))
  | [], _, _, _, _, h, w, hw, hF => h w hw hF
  | (oj, .flo) :: A, hA, F, N, a, ⟨u, hu, h⟩, w, hw, hF => by
    have hj := (hA _ List.mem_cons_self).1
    refine ((rem_cha A (fun p hp => hA p (List.mem_cons_of_mem _ hp)) F N _ h w hw hF).congr (hj.exec_i a u).symm).mono fun v w' ⟨hg, F', M, hs', hF', hl, h'⟩ => ⟨hg, F', M, hs', hF', hl, u, fun x hx => by rw [hj.exec_j]; exact hu x hx, ?_⟩
    rw [← hj.comm]
    exact h'
  | (oj, .new X) :: A, hA, _, _, _, _, _, _, _ => by have := (hA _ List.mem_cons_self).2; cases this
  | (oj, .cha) :: A, hA, _, _, _, _, _, _, _ => by have := (hA _ List.mem_cons_self).2; cases this

/-- Does i wait for j? -/
def waits (ops : Array Oper) : Nat → Nat → Nat → Bool
  | 0, _, _ => false
  | f + 1, i, j => ((((ops[i]?).map (·.after)).getD #[]).any fun e => Region.binds .any e && e.on == j) || (((ops[i]?).map (·.after)).getD #[]).any fun e => Region.binds .any e && waits ops f e.on j
theorem waits_listed {listed : Array Bool} (hc : ∀ j oj, ops[j]? = some oj → listed.getD j false = true → ∀ e ∈ oj.after, Region.binds .any e = true → listed.getD e.on false = true) {j : Nat} :
    ∀ (f i : Nat) (oi : Oper), ops[i]? = some oi → (∀ e ∈ oi.after, Region.binds .any e = true → listed.getD e.on false = true) → waits ops f i j = true → listed.getD j false = true
  | 0, _, _, _, _, h => by cases h
  | f + 1, i, oi, hi, ha, h => by
    unfold waits at h
    rw [hi] at h
    rcases (Bool.or_eq_true _ _ ▸ h) with h | h
    · obtain ⟨e, he, hb⟩ := Array.any_eq_true'.1 h
      simp only [Bool.and_eq_true, beq_iff_eq] at hb
      rw [← hb.2]; exact ha e he hb.1
    · obtain ⟨e, he, hb⟩ := Array.any_eq_true'.1 h
      simp only [Bool.and_eq_true] at hb
      have hl := ha e he hb.1
      have h' := hb.2
      cases hq : ops[e.on]? with
      | none => cases f <;> simp [waits, hq] at h'
      | some oq => exact waits_listed hc f e.on oq hq (hc _ _ hq hl) h'

def canonL (n g : Nat) : Array Bool := Array.replicate n true ++ Array.replicate g false
/-- The tail waits for all that is ahead of it. -/
def tailB (ops : Array Oper) (n : Nat) : Bool := (List.range ops.size).all fun t => decide (t < n) || (List.range n).all fun i => waits ops (t + 1) t i
def mixB (ops : Array Oper) (n : Nat) (kd : Nat → Kd) : Bool :=
  Region.noSelect ops && decide (n < ops.size) && tailB ops n &&
  (List.range n).all fun i => match ops[i]? with
    | none => false
    | some oi => oi.guard.isNone && oi.after.all (fun e => !Region.binds .any e || decide (e.on < i)) &&
      (List.range i).all fun j => match ops[j]? with
        | none => false
        | some oj => (oj.apart ops oi || waits ops (i + 1) i j) && (!(kd i).isCha || (kd j).isFlo || waits ops (i + 1) i j)

end

section
variable {P : Program} {ops : Array Oper} {W : World} {S : List Nat} {Q : Exit → Act → World → Prop} {T : (World → Prop) → List Nat → Act → Prop}

theorem getD_tf {l : Array Bool} {i : Nat} (h : ¬ l.getD i true = false) (hi : i < l.size) : l.getD i false = true := by
  simp [hi] at h ⊢; exact h

theorem anyG (hS : ∀ k ∈ S, k < W.heap.size) {n g : Nat} {kd : Nat → Kd} (hB : mixB ops n kd = true) (hg : n + g = ops.size) (pr : Nat → Oper × Kd) (hpr : ∀ i o, ops[i]? = some o → pr i = (o, kd i))
    (hTN : ∀ F N N' a, (∀ b, b ∈ N → b ∈ N') → T F N a → T F N' a)
    (hT : ∀ F N a w, T F N a → GrS S W w → F w → wpAny P .any ops Q g (canonL n g) a w) :
    ∀ (m : Nat) (L : List Nat) (listed : Array Bool) (a : Act) (w : World) (F : World → Prop) (N : List Nat), L.length = m → HeadInv .any ops n listed → (∀ i, i ∈ L ↔ i < n ∧ listed.getD i true = false) → L.Pairwise (· < ·) →
      Known W S F N w → wpG P W S T (L.map pr) F N a → wpAny P .any ops Q (m + g) listed a w := by
  simp only [mixB, Bool.and_eq_true, decide_eq_true_eq] at hB
  obtain ⟨⟨⟨hsel, hn⟩, htail⟩, hall⟩ := hB
  have hget : ∀ i, i < n → ∃ oi, ops[i]? = some oi ∧ oi.guard = none ∧ (∀ e ∈ oi.after, Region.binds .any e = true → e.on < i) ∧
      ∀ j, j < i → ∀ oj, ops[j]? = some oj → (oj.apart ops oi || waits ops (i + 1) i j) = true ∧ (!(kd i).isCha || (kd j).isFlo || waits ops (i + 1) i j) = true := by
    intro i hi
    have h1 := List.all_eq_true.1 hall i (List.mem_range.2 hi)
    cases ho : ops[i]? with
    | none => simp [ho] at h1
    | some oi =>
      simp only [ho, Bool.and_eq_true] at h1
      obtain ⟨⟨h2, h3⟩, h4⟩ := h1
      refine ⟨oi, rfl, by simpa using h2, fun e he hb => ?_, fun j hj oj hoj => ?_⟩
      · have := Array.all_eq_true_iff_forall_mem.1 h3 e he
        simp only [hb, Bool.not_true, Bool.false_or, decide_eq_true_eq] at this
        exact this
      · have h5 := List.all_eq_true.1 h4 j (List.mem_range.2 hj)
        simp only [hoj, Bool.and_eq_true] at h5
        exact h5
  intro m
  induction m with
  | zero =>
    intro L listed a w F N hm inv hL _ hkn h
    have hnil : L = [] := List.length_eq_zero_iff.1 hm
    subst hnil
    rw [Nat.zero_add]
    have : listed = canonL n (ops.size - n) := by
      refine Array.ext (by rw [inv.size]; simp [canonL]; omega) fun i h1 h2 => ?_
      rw [inv.size] at h1
      by_cases hi : i < n
      · have h3 : ¬ listed.getD i true = false := fun h => by have := (hL i).2 ⟨hi, h⟩; cases this
        have h4 := getD_tf h3 (by rw [inv.size]; exact h1)
        simp [inv.size, h1] at h4
        simp [canonL, hi, h4]
      · have h4 := inv.tail i (by omega) h1
        simp [inv.size, h1] at h4
        simp [canonL, Array.getElem_append, h4]; omega
    rw [this, show ops.size - n = g by omega]
    exact hT F N a w h hkn.gr hkn.fa
  | succ m ih =>
    intro L listed a w F N hm inv hL hp hkn h
    have hready : ∃ i0, i0 ∈ Region.ready .any ops listed ∧ i0 ∈ L := by
      cases L with
      | nil => simp at hm
      | cons i0 L =>
        have h0 := (hL i0).1 List.mem_cons_self
        obtain ⟨oi, ho, _, ha, _⟩ := hget i0 h0.1
        refine ⟨i0, mem_ready.2 ⟨h0.2, oi, ho, fun e he hb => ?_⟩, List.mem_cons_self⟩
        have hlt := ha e he hb
        refine getD_tf (fun hf => ?_) (by rw [inv.size]; omega)
        have hmem := (hL e.on).2 ⟨by omega, hf⟩
        rcases List.mem_cons.1 hmem with h' | h'
        · omega
        · have := (List.pairwise_cons.1 hp).1 _ h'; omega
    obtain ⟨i0, hr0, hm0⟩ := hready
    rw [show m + 1 + g = (m + g) + 1 by omega]
    refine ⟨fun h => (by rw [h] at hr0; cases hr0), fun i hi => ?_⟩
    have hin : i < n := by
      rcases Nat.lt_or_ge i n with h' | h'
      · exact h'
      · obtain ⟨_, ot, hot, hdt⟩ := mem_ready.1 hi
        have h1 := List.all_eq_true.1 htail i (List.mem_range.2 (Array.getElem?_eq_some_iff.1 hot).1)
        simp only [Bool.or_eq_true, decide_eq_true_eq] at h1
        have h2 := List.all_eq_true.1 (h1.resolve_left (by omega)) i0 (List.mem_range.2 ((hL i0).1 hm0).1)
        have h3 := waits_listed inv.closed (i + 1) i ot hot hdt h2
        rw [getD_both ((hL i0).1 hm0).2] at h3
        cases h3
    obtain ⟨hiun, oi', hoi', hdone⟩ := mem_ready.1 hi
    obtain ⟨oi, hoi, hgu, _, hrel⟩ := hget i hin
    obtain rfl : oi' = oi := Option.some.inj (hoi'.symm.trans hoi)
    have hiL : i ∈ L := (hL i).2 ⟨hin, hiun⟩
    obtain ⟨A, B, rfl⟩ := List.append_of_mem hiL
    have hpair := List.pairwise_append.1 hp
    have hAp : ∀ p ∈ A.map pr, Apt ops p.1 oi' ∧ ((kd i).isCha = true → p.2.isFlo = true) := by
      intro p hpm
      obtain ⟨j, hj, rfl⟩ := List.mem_map.1 hpm
      have hji : j < i := hpair.2.2 j hj i List.mem_cons_self
      have hjL := (hL j).1 (List.mem_append_left _ hj)
      obtain ⟨oj, hoj, _⟩ := hget j hjL.1
      have hno : waits ops (i + 1) i j = false := by
        cases hq : waits ops (i + 1) i j with
        | false => rfl
        | true =>
          have := waits_listed inv.closed (i + 1) i oi' hoi hdone hq
          rw [getD_both hjL.2] at this
          cases this
      have h5 := hrel j hji oj hoj
      rw [hno, Bool.or_false, Bool.or_false] at h5
      rw [hpr j oj hoj]
      refine ⟨⟨h5.1, fun cs b => Region.noSelect_spec hsel j oj cs b hoj, fun cs b => Region.noSelect_spec hsel i oi' cs b hoi⟩, fun hc => ?_⟩
      have := h5.2
      rw [hc] at this
      simpa using this
    have hL' : ∀ k, k ∈ A ++ B ↔ k < n ∧ (listed.setIfInBounds i true).getD k true = false := by
      intro k
      by_cases hki : k = i
      · subst hki
        have hlt : k < listed.size := by rw [inv.size]; omega
        have hnA : k ∉ A := fun hk => by have := hpair.2.2 k hk k List.mem_cons_self; omega
        have hnB : k ∉ B := fun hk => by have := (List.pairwise_cons.1 hpair.2.1).1 k hk; omega
        simp [hnA, hnB, hlt]
      · rw [getD_set_ne true (Ne.symm hki), ← hL k]
        simp [hki]
    have hp' : (A ++ B).Pairwise (· < ·) := List.pairwise_append.2 ⟨hpair.1, (List.pairwise_cons.1 hpair.2.1).2, fun x hx y hy => hpair.2.2 x hx y (List.mem_cons_of_mem _ hy)⟩
    have hm' : (A ++ B).length = m := by simp only [List.length_append, List.length_cons] at hm ⊢; omega
    have inv' := inv.set hi hin
    have go : ∀ (a' : Act) (w' : World) (F' : World → Prop) (N' : List Nat), Known W S F' N' w' → wpG P W S T (A.map pr ++ B.map pr) F' N' a' → wpAny P .any ops Q (m + g) (listed.setIfInBounds i true) a' w' :=
      fun a' w' F' N' h1 h4 => ih (A ++ B) _ a' w' F' N' hm' inv' hL' hp' h1 (by rw [List.map_append]; exact h4)
    rw [List.map_append, List.map_cons, hpr i oi' hoi] at h
    unfold wpOp
    simp only [hoi]
    rw [if_pos (by simp [Region.wanted, hgu])]
    refine .inl ?_
    cases hk : kd i with
    | flo =>
      rw [hk] at h
      obtain ⟨v, hv⟩ := ex_flo (A.map pr) (fun p hp => (hAp p hp).1) F N a w hkn h
      have h2 := rem_flo (A.map pr) (fun p hp => (hAp p hp).1) F N a hv h
      unfold Oper.wp
      rcases hv w hkn.gr with he | ⟨he, rfl⟩
      · rw [he]; exact go _ w F N hkn h2
      · rw [he]; exact go _ w F N hkn h2
    | new X =>
      rw [hk] at h
      have hv := ex_new (A.map pr) (fun p hp => (hAp p hp).1) F N a w hkn h
      have h2 := rem_new hTN hS hkn.gr.size (A.map pr) (fun p hp => (hAp p hp).1) F N a hkn.fresh h
      unfold Oper.wp
      rw [hv w hkn.gr]
      exact go _ (w.alloc X) _ _ (hkn.new X) h2
    | cha =>
      rw [hk] at h hAp
      exact (rem_cha (A.map pr) (fun p hp => ⟨(hAp p hp).1, (hAp p hp).2 rfl⟩) F N a h w hkn.gr hkn.fa).wp fun v w' ⟨hgr, F', M, hs', hF', hl, h'⟩ => go _ w' F' _ (hkn.call hgr hs' hF' hl) h'

theorem region_of_tail {id : Nat} {a : Act} {w : World} {F0 : World → Prop} (hF0s : Stb F0) (hF0 : F0 w.drew) (hS : ∀ k ∈ S, k < w.heap.size) {l : List Oper} {T : (World → Prop) → Act → Prop} (n : Nat) (ks : List Kd) (hm : P.follows .mixedOrders = true) (hB : mixB l.toArray n (fun i => ks.getD i .flo) = true) (hk : ks.length = n)
    (hT : ∀ F a w', T F a → GrS S w.drew w' → F w' → wpAny P .any l.toArray Q (l.length - n) (canonL n (l.length - n)) a w')
    (h : wpG P w.drew S (fun F _ a' => T F a') ((l.take n).zip ks) F0 [] a) : (Code.region id l.toArray true).wp P Q a w := by
  have hn : n < l.length := by
    simp only [mixB, Bool.and_eq_true, decide_eq_true_eq] at hB
    simpa using hB.1.1.2
  refine wp_region_any hm ?_
  have inv0 : HeadInv .any l.toArray n (Array.replicate l.toArray.size false) :=
    ⟨by simp, fun j oj _ hl => (by rw [getD_replicate_false] at hl; cases hl), fun t _ ht => getD_in (by simpa using ht) (getD_replicate_false _ _)⟩
  have hzip : (l.take n).zip ks = (List.range n).map (fun i => (l.getD i default, ks.getD i .flo)) := by
    refine List.ext_getElem (by simp [hk]; omega) fun i h1 h2 => ?_
    have hi : i < n := by simpa using h2
    simp [List.getD, List.getElem?_eq_getElem (show i < l.length by omega), List.getElem?_eq_getElem (show i < ks.length by omega)]
  rw [hzip] at h
  have := anyG (P := P) (Q := Q) (W := w.drew) (S := S) hS (g := l.length - n) hB (by simp; omega) (fun i => (l.getD i default, ks.getD i .flo))
    (fun i o ho => by simp only [List.getElem?_toArray] at ho; simp [List.getD, ho])
    (fun F N N' a' _ h => h)
    (fun F N a' w' hT' hw hF => hT F a' w' hT' hw hF)
    n (List.range n) (Array.replicate l.toArray.size false) a w.drew F0 [] (by simp) inv0
    (fun i => by
      rw [List.mem_range]
      exact ⟨fun hi => ⟨hi, getD_in (by simp; omega) (getD_replicate_false _ _)⟩, fun h => h.1⟩)
    List.pairwise_lt_range ⟨hF0s, GrS.refl _ _, hF0, (fun b hb => by cases hb), fun b hb => by cases hb⟩ h
  rw [show n + (l.length - n) = l.toArray.size by simp; omega] at this
  exact this
/-- **ONE WALK IN THE ORDER OF THE TEXT**: n operations, each of its kind; then the tail, which keeps its order. -/
theorem wp_region_mix {id : Nat} {a : Act} {w : World} {l : List Oper} (n : Nat) (ks : List Kd) (hm : P.follows .mixedOrders = true) (hB : (mixB l.toArray n (fun i => ks.getD i .flo) && Region.seqB .any l.toArray (l.length - n) n (canonL n (l.length - n))) = true) (hk : ks.length = n)
    (h : wpG P w.drew [] (fun F _ a' => ∀ w', Gr w.drew w' → F w' → wpList P l.toArray Q (l.drop n) a' w') ((l.take n).zip ks) (fun _ => True) [] a) : (Code.region id l.toArray true).wp P Q a w := by
  rw [Bool.and_eq_true] at hB
  refine region_of_tail (S := []) (F0 := fun _ => True) Stb.tt trivial (fun _ h => by cases h) (T := fun F a' => ∀ w', Gr w.drew w' → F w' → wpList P l.toArray Q (l.drop n) a' w') n ks hm hB.1 hk (fun F a' w' hT hw hF => ?_) h
  have hdl : (l.drop n).length = l.length - n := by simp
  have := wpAny_of_seq (md := .any) (Q' := Q) (l.drop n) n (canonL n (l.length - n)) a' w' (fun j => by simp [List.getElem?_drop]) (by rw [hdl]; exact hB.2) (hT w' hw.toGr hF)
  rwa [hdl] at this
/-- .. where a store into a block of S may stand among the operations. -/
theorem wp_region_mixS {id : Nat} {a : Act} {w : World} {l : List Oper} (S : List Nat) (F0 : World → Prop) (hF0s : Stb F0) (hF0 : F0 w.drew) (hS : ∀ k ∈ S, k < w.heap.size) (n : Nat) (ks : List Kd) (hm : P.follows .mixedOrders = true) (hB : (mixB l.toArray n (fun i => ks.getD i .flo) && Region.seqB .any l.toArray (l.length - n) n (canonL n (l.length - n))) = true) (hk : ks.length = n)
    (h : wpG P w.drew S (fun F _ a' => ∀ w', GrS S w.drew w' → F w' → wpList P l.toArray Q (l.drop n) a' w') ((l.take n).zip ks) F0 [] a) : (Code.region id l.toArray true).wp P Q a w := by
  rw [Bool.and_eq_true] at hB
  refine region_of_tail (S := S) (F0 := F0) hF0s hF0 hS (T := fun F a' => ∀ w', GrS S w.drew w' → F w' → wpList P l.toArray Q (l.drop n) a' w') n ks hm hB.1 hk (fun F a' w' hT hw hF => ?_) h
  have hdl : (l.drop n).length = l.length - n := by simp
  have := wpAny_of_seq (md := .any) (Q' := Q) (l.drop n) n (canonL n (l.length - n)) a' w' (fun j => by simp [List.getElem?_drop]) (by rw [hdl]; exact hB.2) (hT w' hw hF)
  rwa [hdl] at this
theorem wpList_op {i : Nat} {o : Oper} {rest : List Oper} {K : Act → World → Prop} {a : Act} {w : World} (hi : ops[i]? = some o) (hK : ∀ a w, wpList P ops Q rest a w → K a w) (h : wpList P ops Q (o :: rest) a w) : wpOp P ops Q i K a w := by
  have : wpOp P ops Q i (wpList P ops Q rest) a w := by unfold wpOp; simp only [hi]; exact h
  exact wpOp_mono hK this
/-- .. of two operations in either order. -/
def pairB (ops : Array Oper) (n : Nat) : Bool :=
  decide (Region.ready .any ops (canonL n 2) = [n, n + 1]) && decide (Region.ready .any ops ((canonL n 2).setIfInBounds n true) = [n + 1]) && decide (Region.ready .any ops ((canonL n 2).setIfInBounds (n + 1) true) = [n]) &&
  decide (Region.ready .any ops (((canonL n 2).setIfInBounds n true).setIfInBounds (n + 1) true) = []) && decide (Region.ready .any ops (((canonL n 2).setIfInBounds (n + 1) true).setIfInBounds n true) = [])
theorem wp_region_mix2 {id : Nat} {a : Act} {w : World} {l : List Oper} (n : Nat) (o1 o2 : Oper) (ks : List Kd) (hm : P.follows .mixedOrders = true) (hB : (mixB l.toArray n (fun i => ks.getD i .flo) && pairB l.toArray n) = true) (hd : l.drop n = [o1, o2]) (hk : ks.length = n)
    (h : wpG P w.drew [] (fun F _ a' => ∀ w', Gr w.drew w' → F w' → wpList P l.toArray Q [o1, o2] a' w' ∧ wpList P l.toArray Q [o2, o1] a' w') ((l.take n).zip ks) (fun _ => True) [] a) : (Code.region id l.toArray true).wp P Q a w := by
  rw [Bool.and_eq_true] at hB
  have hlen : l.length - n = 2 := by have := congrArg List.length hd; simpa using this
  have h1 : l.toArray[n]? = some o1 := by
    have := congrArg (·[0]?) hd
    simpa [List.getElem?_drop] using this
  have h2 : l.toArray[n + 1]? = some o2 := by
    have := congrArg (·[1]?) hd
    simpa [List.getElem?_drop] using this
  refine region_of_tail (S := []) (F0 := fun _ => True) Stb.tt trivial (fun _ h => by cases h) (T := fun F a' => ∀ w', Gr w.drew w' → F w' → wpList P l.toArray Q [o1, o2] a' w' ∧ wpList P l.toArray Q [o2, o1] a' w') n ks hm hB.1 hk (fun F a' w' hT hw hF => ?_) h
  rw [hlen]
  have hp := hB.2
  simp only [pairB, Bool.and_eq_true, decide_eq_true_eq] at hp
  obtain ⟨⟨⟨⟨p0, p1⟩, p2⟩, p3⟩, p4⟩ := hp
  obtain ⟨t1, t2⟩ := hT w' hw.toGr hF
  refine ⟨fun h => (by rw [p0] at h; cases h), fun i hi => ?_⟩
  rw [p0] at hi
  simp only [List.mem_cons, List.not_mem_nil, or_false] at hi
  rcases hi with rfl | rfl
  · refine wpList_op h1 (fun a w hq => ?_) t1
    refine ⟨fun h => (by rw [p1] at h; cases h), fun i' hi' => ?_⟩
    rw [p1] at hi'
    obtain rfl : i' = i + 1 := by simpa using hi'
    exact wpList_op (rest := []) h2 (fun a w h => ⟨p3, h⟩) hq
  · refine wpList_op h2 (fun a w hq => ?_) t2
    refine ⟨fun h => (by rw [p2] at h; cases h), fun i' hi' => ?_⟩
    rw [p2] at hi'
    obtain rfl : i' = n := by simpa using hi'
    exact wpList_op (rest := []) h1 (fun a w h => ⟨p4, h⟩) hq
end

section
variable {P : Program} {W : World} {Q : Exit → Act → World → Prop} {T : (World → Prop) → List Nat → Act → Prop}
theorem listG {ops : Array Oper} {rest : List Oper} (hT : ∀ F N a w, T F N a → Gr W w → F w → wpList P ops Q rest a w) : ∀ (L : List (Oper × Kd)), (∀ p ∈ L, p.1.guard = none) → ∀ (F : World → Prop) (N : List Nat) (a : Act) (w : World),
    Known W [] F N w → wpG P W [] T L F N a → wpList P ops Q (L.map (·.1) ++ rest) a w
  | [], _, F, N, a, w, hk, h => hT F N a w h hk.gr.toGr hk.fa
  | (o, .flo) :: L, hg, F, N, a, w, hk, ⟨v, hv, h⟩ => wpList_plain (hg _ List.mem_cons_self) fun K hK => by
      unfold Oper.wp
      rcases hv w hk.gr with he | ⟨he, rfl⟩
      · rw [he]; exact hK _ _ (listG hT L (fun p hp => hg p (List.mem_cons_of_mem _ hp)) F N _ w hk h)
      · rw [he]; exact hK _ _ (listG hT L (fun p hp => hg p (List.mem_cons_of_mem _ hp)) F N _ w hk h)
  | (o, .new X) :: L, hg, F, N, a, w, hk, ⟨hm, h⟩ => wpList_plain (hg _ List.mem_cons_self) fun K hK => by
      unfold Oper.wp; rw [hm w hk.gr]; exact hK _ _ (listG hT L (fun p hp => hg p (List.mem_cons_of_mem _ hp)) _ _ _ _ (hk.new X) (h _ hk.gr.size hk.fresh))
  | (o, .cha) :: L, hg, F, N, a, w, hk, h => wpList_plain (hg _ List.mem_cons_self) fun K hK => by
      exact (h w hk.gr hk.fa).wp fun v w' ⟨hgr, F', M, hs', hF', hl, h'⟩ => hK _ _ (listG hT L (fun p hp => hg p (List.mem_cons_of_mem _ hp)) F' _ _ w' (hk.call hgr hs' hF' hl) h')
/-- The same of a region that keeps the order of the text. -/
theorem wp_region_seq {id : Nat} {a : Act} {w : World} {l : List Oper} (n : Nat) (ks : List Kd) (hB : (l.take n).all (·.guard.isNone) = true) (hk : ks.length = n) (hn : n ≤ l.length)
    (h : wpG P w [] (fun F _ a' => ∀ w', Gr w w' → F w' → wpList P l.toArray Q (l.drop n) a' w') ((l.take n).zip ks) (fun _ => True) [] a) : (Code.region id l.toArray false).wp P Q a w := by
  refine wp_region_lit ?_
  have e : ((l.take n).zip ks).map (·.1) ++ l.drop n = l := by
    rw [List.map_fst_zip (by simp; omega), List.take_append_drop]
  have := listG (P := P) (W := w) (Q := Q) (ops := l.toArray) (rest := l.drop n) (fun F N a w' hT hw hF => hT w' hw hF) ((l.take n).zip ks) (fun p hp => by
    have h1 := List.all_eq_true.1 hB p.1 (List.of_mem_zip hp).1
    simpa using h1) (fun _ => True) [] a w ⟨fun _ _ _ _ => trivial, GrS.refl _ _, trivial, (fun b hb => by cases hb), fun b hb => by cases hb⟩ h
  rwa [e] at this
end

section
variable {P : Program} {W : World} {S : List Nat} {T : (World → Prop) → List Nat → Act → Prop} {L : List (Oper × Kd)} {F : World → Prop} {N : List Nat} {a : Act} {o : Oper}
theorem gm_nil (h : T F N a) : wpG P W S T [] F N a := h
/-- A whole struct or array out of a block that stood. -/
theorem gm_loadS {t : TypeId} (x : Operand) (ho : o.op = .load t x) (b : Nat) (cs : Array Value) (t' : TypeId) (fr : Nat × Nat) (d : TypeDesc) (hb : W.heap[b]? = some (.cells cs t' fr)) (hbS : b ∉ S) (hx : a.eval x = .pointer (some ⟨b, 0, none⟩))
    (hu : P.underlying t = some d) (hd : (match d with | .struct _ | .array _ _ => true | _ => false) = true) (hi : (P.info? t).map (·.size) = some cs.size)
    (h : wpG P W S T L F N (a.put o.dst (.agg cs))) : wpG P W S T ((o, .flo) :: L) F N a :=
  ⟨_, fun w hw => .inl <| by
    unfold execOp
    simp only [ho, hx, Instr.loadAt, Instr.sureAddr, Sem.run_bind, Sem.run_pure, Result.andThen_ok, run_loadVar_row w b t' t cs fr d (hw.at hbS hb) hu hd hi], h⟩
theorem gm_load {t : TypeId} (x : Operand) (ho : o.op = .load t x) (b : Nat) (cs : Array Value) (t' : TypeId) (fr : Nat × Nat) (d : TypeDesc) (hb : W.heap[b]? = some (.cells cs t' fr)) (hx : a.eval x = .pointer (some ⟨b, 0, none⟩))
    (hu : P.underlying t = some d) (hd : (match d with | .struct _ | .array _ _ => true | _ => false) = true) (hi : (P.info? t).map (·.size) = some cs.size)
    (h : wpG P W [] T L F N (a.put o.dst (.agg cs))) : wpG P W [] T ((o, .flo) :: L) F N a :=
  gm_loadS x ho b cs t' fr d hb (fun h => by cases h) hx hu hd hi h
def goesB (P : Program) (f : FuncId) : Bool := match P.funcs[f]? with | some fn => !(fn.name == "runtime.NumGoroutine") && fn.body.isSome | none => false
theorem exec_call {f : FuncId} {l : List Operand} {ts : Array TypeId} {vl : List Value} (hb : goesB P f = true) (ho : o.op = .call { callee := .value (.func f), args := l.toArray, argTypes := ts }) (hv : l.map a.eval = vl) (w : World) :
    (execOp a.eval o).run P w = .ok (.enter f vl.toArray) w := by
  obtain ⟨dst, op, ty, pos, after, guard⟩ := o
  subst ho
  rw [execOp_call_go]
  subst hv
  unfold goesB at hb
  cases hf : P.funcs[f]? with
  | none => simp [hf] at hb
  | some fn =>
    simp only [hf, Bool.and_eq_true, Bool.not_eq_true', beq_eq_false_iff_ne] at hb
    have h2 : fn.body ≠ none := fun h => by simp [h] at hb
    simp [callFunc, hf, hb.1, h2]
/-- A call of a function of the program. -/
theorem gm_call {f : FuncId} {l : List Operand} {ts : Array TypeId} (vl : List Value) (hb : goesB P f = true) (ho : o.op = .call { callee := .value (.func f), args := l.toArray, argTypes := ts }) (hv : l.map a.eval = vl) (hF : Stb F)
    (h : ∀ w, GrS S W w → F w → Calls P f vl.toArray w (fun e w' => ∃ v, e = .returned v ∧ Gr w w' ∧ wpG P W S T L F N (a.put o.dst v))) : wpG P W S T ((o, .cha) :: L) F N a :=
  fun w hw hFw => .inl ⟨f, vl.toArray, exec_call hb ho hv w, (h w hw hFw).mono fun _ w' ⟨v, hv, hg, hr⟩ => ⟨v, hv, (hg.toS S).d, F, [], hF, hF _ _ hg hFw, fun _ hb => (by cases hb), hr⟩⟩
/-- One that leaves facts on the world, and new blocks. -/
theorem gm_callF {f : FuncId} {l : List Operand} {ts : Array TypeId} (vl : List Value) (hb : goesB P f = true) (ho : o.op = .call { callee := .value (.func f), args := l.toArray, argTypes := ts }) (hv : l.map a.eval = vl)
    (h : ∀ w, GrS S W w → F w → Calls P f vl.toArray w (fun e w' => ∃ v, e = .returned v ∧ Gr w w' ∧ ∃ F' N', Stb F' ∧ F' w' ∧ (∀ b ∈ N', w.heap.size ≤ b ∧ b < w'.heap.size) ∧ wpG P W S T L F' (N' ++ N) (a.put o.dst v))) : wpG P W S T ((o, .cha) :: L) F N a :=
  fun w hw hFw => .inl ⟨f, vl.toArray, exec_call hb ho hv w, (h w hw hFw).mono fun _ w' ⟨v, hv, hg, hr⟩ => ⟨v, hv, (hg.toS S).d, hr⟩⟩
theorem gm_flo (v : Value) (h : ∀ w, GrS S W w → (execOp a.eval o).run P w = .ok (.value v) w) (hr : wpG P W S T L F N (a.put o.dst v)) : wpG P W S T ((o, .flo) :: L) F N a := ⟨v, fun w hw => .inl (h w hw), hr⟩
theorem gm_move (x : Operand) (ho : o.op = .move x ∨ o.op = .assign x) (v : Value) (hx : a.eval x = v) (h : wpG P W S T L F N (a.put o.dst v)) : wpG P W S T ((o, .flo) :: L) F N a :=
  ⟨v, fun w _ => .inl <| by subst hx; unfold execOp; rcases ho with ho | ho <;> simp only [ho] <;> rfl, h⟩
theorem gm_alloc {t : TypeId} (ho : o.op = .alloc t) (X : Obj) (hm : ∀ w, (Instr.alloc t true (.tuple #[])).run P w = .ok (.pointer (some ⟨w.heap.size, 0, none⟩)) (w.alloc X))
    (h : ∀ b, W.heap.size ≤ b → b ∉ N → wpG P W S T L (fun w => F w ∧ w.heap[b]? = some X) (b :: N) (a.put o.dst (.pointer (some ⟨b, 0, none⟩)))) : wpG P W S T ((o, .new X) :: L) F N a :=
  ⟨fun w _ => by unfold execOp; simp only [ho, Sem.run_bind, hm, Result.andThen_ok, Sem.run_pure], h⟩
theorem gm_box {t : TypeId} (x : Operand) (ho : o.op = .box t x) (X : Obj) (v : Value) (hx : a.eval x = v) (hm : ∀ w, (Instr.box t v).run P w = .ok (.pointer (some ⟨w.heap.size, 0, none⟩)) (w.alloc X))
    (h : ∀ b, W.heap.size ≤ b → b ∉ N → wpG P W S T L (fun w => F w ∧ w.heap[b]? = some X) (b :: N) (a.put o.dst (.pointer (some ⟨b, 0, none⟩)))) : wpG P W S T ((o, .new X) :: L) F N a :=
  ⟨fun w _ => by subst hx; unfold execOp; simp only [ho, Sem.run_bind, hm, Result.andThen_ok, Sem.run_pure], h⟩
theorem gm_extract {vs : Array Value} (x : Operand) (i : Nat) (ho : o.op = .extract x i) (hx : a.eval x = .tuple vs) (v : Value) (hv : vs[i]? = some v) (h : wpG P W S T L F N (a.put o.dst v)) : wpG P W S T ((o, .flo) :: L) F N a :=
  ⟨v, fun w _ => .inl <| by unfold execOp; simp only [ho, hx]; simp [Instr.extract, hv], h⟩
theorem setRow_same {w : World} {b : Nat} {cs : Array Value} {t : TypeId} {fr : Nat × Nat} (h : w.heap[b]? = some (.cells cs t fr)) : w.setRow b cs = w := by
  obtain ⟨heap, tape, drawn, os, output⟩ := w
  have hh : ((⟨heap, tape, drawn, os, output⟩ : World).setRow b cs).heap = heap := by
    refine Array.ext_getElem? fun k => ?_
    by_cases hk : k = b
    · subst hk; exact (setRow_heap _ _ _ _ _ _ h).trans h.symm
    · exact setRow_other _ _ _ _ hk
  unfold World.setRow at hh ⊢
  simpa using hh
/-- A store of what stands there. -/
theorem gm_store_same {t : TypeId} (x y : Operand) (ho : o.op = .store t x y) (b : Nat) (cs : Array Value) (t' : TypeId) (hx : a.eval x = .pointer (some ⟨b, 0, none⟩)) (hy : a.eval y = .agg cs) (hbS : b ∉ S) (hd : o.dst = none)
    (hi : (P.info? t).map (·.size) = some cs.size) (h1 : cs.all (·.oneCell') = true) (hb : W.heap[b]? = some (.cells cs t' (0, 0))) (h : wpG P W S T L F N a) : wpG P W S T ((o, .flo) :: L) F N a :=
  ⟨undef, fun w hw => .inr ⟨by
    unfold execOp
    simp only [ho, hx, hy, Instr.storeAt, Instr.sureAddr, Sem.run_bind, Sem.run_pure, Result.andThen_ok, run_storeVar_row w b t' t cs cs (hw.at hbS hb) hi rfl h1, setRow_same (hw.at hbS hb)], rfl⟩, by rw [hd]; exact h⟩
/-- A store of a whole row into a block of S. -/
theorem gm_store {t : TypeId} (x y : Operand) (ho : o.op = .store t x y) (b : Nat) (old cs : Array Value) (t' : TypeId) (hx : a.eval x = .pointer (some ⟨b, 0, none⟩)) (hy : a.eval y = .agg cs) (hbS : b ∈ S) (hd : o.dst = none)
    (hi : (P.info? t).map (·.size) = some cs.size) (hold : old.size = cs.size) (h1 : cs.all (·.oneCell') = true) (G : World → Prop) (hFG : ∀ w, F w → G w ∧ w.heap[b]? = some (.cells old t' (0, 0))) (hG : Stb G) (hGs : ∀ w, G w → G (w.setRow b cs))
    (h : wpG P W S T L (fun w => G w ∧ w.heap[b]? = some (.cells cs t' (0, 0))) N a) : wpG P W S T ((o, .cha) :: L) F N a :=
  fun w hw hFw => .inr (.inl ⟨w.setRow b cs, by
    unfold execOp
    simp only [ho, hx, hy, Instr.storeAt, Instr.sureAddr, Sem.run_bind, Sem.run_pure, Result.andThen_ok, run_storeVar_row w b t' t old cs (hFG w hFw).2 hi hold h1], ((GrS.refl S w).setRow (.inr hbS) cs).d, _, [], hG.new b _, ⟨hGs w (hFG w hFw).1, setRow_heap _ _ _ _ _ _ (hFG w hFw).2⟩, fun _ hb => (by cases hb), by rw [hd]; exact h⟩)
/-- A store of a whole row into a block that is new. -/
theorem gm_storeN {t : TypeId} (x y : Operand) (ho : o.op = .store t x y) (b : Nat) (old cs : Array Value) (t' : TypeId) (hx : a.eval x = .pointer (some ⟨b, 0, none⟩)) (hy : a.eval y = .agg cs) (hbN : b ∈ N) (hd : o.dst = none)
    (hi : (P.info? t).map (·.size) = some cs.size) (hold : old.size = cs.size) (h1 : cs.all (·.oneCell') = true) (G : World → Prop) (hFG : ∀ w, F w → G w ∧ w.heap[b]? = some (.cells old t' (0, 0))) (hG : Stb G) (hGs : ∀ w, G w → G (w.setRow b cs))
    (h : wpG P W S T L (fun w => G w ∧ w.heap[b]? = some (.cells cs t' (0, 0))) N a) : wpG P W S T ((o, .cha) :: L) F N a :=
  fun w hw hFw => .inr (.inl ⟨w.setRow b cs, by
    unfold execOp
    simp only [ho, hx, hy, Instr.storeAt, Instr.sureAddr, Sem.run_bind, Sem.run_pure, Result.andThen_ok, run_storeVar_row w b t' t old cs (hFG w hFw).2 hi hold h1], ⟨[b], (fun d hd => by simp at hd; subst hd; exact hbN), (GrS.refl _ w).setRow (.inr (by simp)) cs⟩, _, [], hG.new b _, ⟨hGs w (hFG w hFw).1, setRow_heap _ _ _ _ _ _ (hFG w hFw).2⟩, fun _ hb => (by cases hb), by rw [hd]; exact h⟩)
/-- An operation that yields a value in the world as it has become, and leaves facts and new blocks. -/
theorem gm_val (h : ∀ w, GrS S W w → F w → ∃ v w', (execOp a.eval o).run P w = .ok (.value v) w' ∧ Gr w w' ∧ ∃ F' N', Stb F' ∧ F' w' ∧ (∀ b ∈ N', w.heap.size ≤ b ∧ b < w'.heap.size) ∧ wpG P W S T L F' (N' ++ N) (a.put o.dst v)) : wpG P W S T ((o, .cha) :: L) F N a :=
  fun w hw hFw => by
    obtain ⟨v, w', he, hg, hr⟩ := h w hw hFw
    exact .inr (.inr ⟨v, w', he, (hg.toS S).d, hr⟩)
end
end Go.Proofs.Ytopiopomioglfaa
namespace Go.Proofs.Ytopiopomioglfaa
set_option maxRecDepth 100000
set_option linter.unusedVariables false
open Go Go.RowKit

theorem GrS.of_upd {S K : List Nat} {w w' : World} (u : Upd K w w') (hs : ∀ k, k ∈ K → k ∈ S) : GrS S w w' :=
  ⟨u.os, u.tape, u.output, u.size, fun i hi hn => u.block i hi (fun h => hn (hs i h))⟩
theorem GrS.upd {S : List Nat} {w w' : World} (u : GrS S w w') : Upd S w w' := ⟨u.os, u.tape, u.output, u.size, u.block⟩
theorem Gr.upd {w w' : World} (u : Gr w w') : Upd [] w w' := Upd.of_below u
section
variable {P : Program} {W : World} {S : List Nat} {T : (World → Prop) → List Nat → Act → Prop} {L : List (Oper × Kd)} {F : World → Prop} {N : List Nat} {a : Act} {o : Oper}
/-- A call that changes blocks of S, and leaves facts. -/
theorem gm_callS {f : FuncId} {l : List Operand} {ts : Array TypeId} (vl : List Value) (hb : goesB P f = true) (ho : o.op = .call { callee := .value (.func f), args := l.toArray, argTypes := ts }) (hv : l.map a.eval = vl)
    (h : ∀ w, GrS S W w → F w → Calls P f vl.toArray w (fun e w' => ∃ v, e = .returned v ∧ GrS S w w' ∧ ∃ F', Stb F' ∧ F' w' ∧ wpG P W S T L F' N (a.put o.dst v))) : wpG P W S T ((o, .cha) :: L) F N a :=
  fun w hw hFw => .inl ⟨f, vl.toArray, exec_call hb ho hv w, (h w hw hFw).mono fun _ w' ⟨v, hv, hg, F', hs, hF, hr⟩ => ⟨v, hv, hg.d, F', [], hs, hF, fun _ hb => (by cases hb), hr⟩⟩
end
end Go.Proofs.Ytopiopomioglfaa
namespace Go.Proofs.Ytopiopomioglfaa
set_option maxRecDepth 100000
set_option linter.unusedVariables false
open Go Go.RowKit

/-- copy from a string, as much as there is room. -/
theorem run_copy_min {P : Program} (w : World) (dT sT ty elem : TypeId) (g o dLen dCap : Nat) (s : ByteArray) (cur : Array Value) (t : TypeId) (m : Nat) (hm : m = min s.size dLen)
    (hu : P.underlying dT = some (.slice elem)) (hs : (P.info? elem).map (·.size) = some 1) (hg : w.heap[g]? = some (.cells cur t (0, 0))) (hfit : o + m ≤ cur.size) :
    (Builtin.copy_ #[dT, sT] ty #[.slice (some ⟨g, o, none⟩) dLen dCap, .string s]).run P w =
      .ok (goInt m) (w.setRow g (cur.toList.take o ++ (s.data.toList.take m).map bval ++ cur.toList.drop (o + m)).toArray) := by
  have hsz : s.data.toList.length = s.size := by simp
  have hlen : ((s.data.toList.take m).map bval).length = m := by rw [List.length_map, List.length_take, hsz]; omega
  have hst := run_storeCells_at P g o t ((s.data.toList.take m).map bval) 0 cur w hg (by rw [hlen]; simpa using hfit) (by
    intro v hv
    obtain ⟨b, _, rfl⟩ := List.mem_map.1 hv
    rfl)
  have hmin : Nat.min s.size dLen = m := hm.symm
  have htk : List.take m (List.map (fun b : UInt8 => Value.int IntKind.u8 (b.toNat : Int)) s.data.toList) = (s.data.toList.take m).map bval := by
    rw [List.map_take]; rfl
  rw [hlen] at hst
  simp only [Nat.add_zero] at hst
  cases hq : P.info? elem with
  | none => simp [hq] at hs
  | some i =>
    simp [Builtin.copy_, run_underlying hu, Builtin.lenOf, Builtin.firstCells, sizeOf, typeInfo, hq, hmin]
    rw [htk, hst]
    simp [Result.andThen]
theorem wpList_copy_str {P : Program} {w : World} {ops : Array Oper} {rest : List Oper} {o : Oper} {a : Act} {Q : Exit → Act → World → Prop} (hgd : o.guard = none) (d s : Operand) (dT sT : TypeId)
    (ho : o.op = .call { callee := .builtin .copy, args := #[d, s], argTypes := #[dT, sT] }) (elem : TypeId) (hu : P.underlying dT = some (.slice elem)) (hsz : (P.info? elem).map (·.size) = some 1)
    (g off dLen dCap : Nat) (t : ByteArray) (hd : a.eval d = .slice (some ⟨g, off, none⟩) dLen dCap) (hs : a.eval s = .string t)
    (cur : Array Value) (te : TypeId) (hg : w.heap[g]? = some (.cells cur te (0, 0))) (m : Nat) (hm : m = min t.size dLen) (hfit : off + m ≤ cur.size)
    (W' : World) (hW : W' = w.setRow g (cur.toList.take off ++ (t.data.toList.take m).map bval ++ cur.toList.drop (off + m)).toArray)
    (h : wpList P ops Q rest (a.put o.dst (goInt m)) W') : wpList P ops Q (o :: rest) a w := by
  subst hW
  refine wpList_plain hgd fun K hK => ?_
  have hrun := run_copy_min (P := P) w dT sT o.type elem g off dLen dCap t cur te m hm hu hsz hg hfit
  have he : (execOp a.eval o).run P w = .ok (.value (goInt m)) (w.setRow g (cur.toList.take off ++ (t.data.toList.take m).map bval ++ cur.toList.drop (off + m)).toArray) := by
    simp [execOp, ho, resolve, invoke, builtin, hd, hs, hrun, Result.andThen]
  unfold Oper.wp
  rw [he]
  exact hK _ _ h

/-- The cells of a writer. -/
def swc (q : Nat) (page : List UInt8) (size : Int) (ended : Bool) (e : Int) : List Value := .pointer (some ⟨q, 0, none⟩) :: (page.map bval ++ [.int .i64 size, .bool ended, .int .i64 e])
theorem swc_len {q : Nat} {page : List UInt8} {size : Int} {ended : Bool} {e : Int} (h : page.length = 64) : (swc q page size ended e).length = 68 := by simp [swc, h]
theorem swc_at {q : Nat} {page : List UInt8} {size : Int} {ended : Bool} {e : Int} (h : page.length = 64) :
    (swc q page size ended e)[0]? = some (.pointer (some ⟨q, 0, none⟩)) ∧ (swc q page size ended e)[65]? = some (.int .i64 size) ∧ (swc q page size ended e)[66]? = some (.bool ended) ∧ (swc q page size ended e)[67]? = some (.int .i64 e) := by
  refine ⟨rfl, ?_, ?_, ?_⟩ <;> (simp only [swc, List.getElem?_cons_succ]; rw [List.getElem?_append_right (by simp [h])]; simp [h])
theorem swc_byte {q : Nat} {page : List UInt8} {size : Int} {ended : Bool} {e : Int} {j : Nat} {u : UInt8} (hu : page[j]? = some u) : (swc q page size ended e)[1 + j]? = some (bval u) := by
  have hj := (List.getElem?_eq_some_iff.1 hu).1
  rw [Nat.add_comm]
  simp only [swc, List.getElem?_cons_succ]
  rw [List.getElem?_append_left (by simpa using hj), List.getElem?_map, hu]; rfl
/-- A writer lies at g: over the part at q. -/
structure Swr (w : World) (g q : Nat) (page : List UInt8) (size : Int) (ended : Bool) (e : Int) : Prop where
  len : page.length = 64
  row : w.heap[g]? = some (.cells (swc q page size ended e).toArray 71 (0, 0))
theorem Swr.lt {w : World} {g q : Nat} {page : List UInt8} {size : Int} {ended : Bool} {e : Int} (h : Swr w g q page size ended e) : g < w.heap.size := (Array.getElem?_eq_some_iff.1 h.row).1
theorem Swr.upd {w w' : World} {g q : Nat} {page : List UInt8} {size : Int} {ended : Bool} {e : Int} {S : List Nat} (h : Swr w g q page size ended e) (hu : Upd S w w') (hn : g ∉ S) : Swr w' g q page size ended e :=
  ⟨h.len, (hu.block _ h.lt hn).trans h.row⟩
theorem Swr.cells {w : World} {g q : Nat} {page : List UInt8} {size : Int} {ended : Bool} {e : Int} (h : Swr w g q page size ended e) :
    w.cell? ⟨g, 0, none⟩ = some (.pointer (some ⟨q, 0, none⟩)) ∧ w.cell? ⟨g, 65, none⟩ = some (.int .i64 size) ∧ w.cell? ⟨g, 66, none⟩ = some (.bool ended) ∧ w.cell? ⟨g, 67, none⟩ = some (.int .i64 e) := by
  obtain ⟨h0, h1, h2, h3⟩ := swc_at (q := q) (size := size) (ended := ended) (e := e) h.len
  refine ⟨?_, ?_, ?_, ?_⟩ <;> (rw [cell_of_row _ _ _ _ _ _ h.row, List.getElem?_toArray]; assumption)
theorem Swr.free {w : World} {g q : Nat} {page : List UInt8} {size : Int} {ended : Bool} {e : Int} (h : Swr w g q page size ended e) (i : Nat) : w.frozen? ⟨g, i, none⟩ = false := frozen_of_row _ _ _ _ _ h.row
theorem swc_set {q : Nat} {page : List UInt8} {size : Int} {ended : Bool} {e : Int} (h : page.length = 64) :
    (∀ v, (swc q page size ended e).toArray.setIfInBounds 65 (.int .i64 v) = (swc q page v ended e).toArray) ∧ (∀ v, (swc q page size ended e).toArray.setIfInBounds 66 (.bool v) = (swc q page size v e).toArray) ∧ (∀ v, (swc q page size ended e).toArray.setIfInBounds 67 (.int .i64 v) = (swc q page size ended v).toArray) := by
  refine ⟨fun v => ?_, fun v => ?_, fun v => ?_⟩ <;> (rw [List.setIfInBounds_toArray]; congr 1; simp only [swc, List.set_cons_succ]; rw [List.set_append_right _ _ (by simp [h])]; simp [h])
theorem Swr.set65 {w : World} {g q : Nat} {page : List UInt8} {size : Int} {ended : Bool} {e : Int} (h : Swr w g q page size ended e) (v : Int) : Swr (w.setCell ⟨g, 65, none⟩ (.int .i64 v)) g q page v ended e :=
  ⟨h.len, by rw [heap_setCell_same _ _ _ _ _ _ h.row, (swc_set h.len).1]⟩
theorem Swr.set66 {w : World} {g q : Nat} {page : List UInt8} {size : Int} {ended : Bool} {e : Int} (h : Swr w g q page size ended e) (v : Bool) : Swr (w.setCell ⟨g, 66, none⟩ (.bool v)) g q page size v e :=
  ⟨h.len, by rw [heap_setCell_same _ _ _ _ _ _ h.row, (swc_set h.len).2.1]⟩
theorem Swr.set67 {w : World} {g q : Nat} {page : List UInt8} {size : Int} {ended : Bool} {e : Int} (h : Swr w g q page size ended e) (v : Int) : Swr (w.setCell ⟨g, 67, none⟩ (.int .i64 v)) g q page size ended v :=
  ⟨h.len, by rw [heap_setCell_same _ _ _ _ _ _ h.row, (swc_set h.len).2.2]⟩
/-- Bytes copied into the page. -/
theorem Swr.copied {w : World} {g q : Nat} {page : List UInt8} {size : Int} {ended : Bool} {e : Int} (h : Swr w g q page size ended e) (o : Nat) (l : List UInt8) (hl : o + l.length ≤ 64) :
    Swr (w.setRow g ((swc q page size ended e).toArray.toList.take (1 + o) ++ l.map bval ++ (swc q page size ended e).toArray.toList.drop (1 + o + l.length)).toArray) g q (page.take o ++ l ++ page.drop (o + l.length)) size ended e := by
  have hp := h.len
  refine ⟨by simp [hp]; omega, ?_⟩
  rw [setRow_heap _ _ _ _ _ _ h.row]
  congr 3
  simp only [swc]
  rw [Nat.add_comm 1 o, List.take_succ_cons, show o + 1 + l.length = (o + l.length) + 1 by omega, List.drop_succ_cons, List.take_append_of_le_length (by simp [hp]; omega), List.drop_append_of_le_length (by simp [hp]; omega)]
  simp [List.map_take, List.map_drop]
theorem begin_any (q : Nat) (w : World) : Calls Try.prog 8 #[.pointer (some ⟨q, 0, none⟩)] w fun e w' => e = .returned (.pointer (some ⟨w.heap.size, 0, none⟩)) ∧ Swr w' w.heap.size q (List.replicate 64 0) 0 false 0 ∧ Below w.heap.size w w' := by
  have R : Box (Swr (w.alloc (.cells (swc q (List.replicate 64 0) 0 false 0).toArray 71)) w.heap.size q (List.replicate 64 0) 0 false 0) := ⟨⟨by simp, heap_alloc_new _ _⟩⟩
  go_enter Try.func8, Try.ntmps8
  go_wp2
  go_ret
  exact ⟨rfl, R.out, (Below.refl _ _).alloc (Nat.le_refl _) _⟩
theorem ssize_any (g q : Nat) (page : List UInt8) (size : Int) (ended : Bool) (e : Int) (w : World) (h : Swr w g q page size ended e) :
    Calls Try.prog 17 #[.pointer (some ⟨g, 0, none⟩)] w fun x w' => x = .returned (.int .i64 size) ∧ w = w' := by
  obtain ⟨c0, c1, c2, c3⟩ := h.cells
  clear c0 c2 c3 h
  go_enter Try.func17, Try.ntmps17
  go_wp2
  go_ret
  exact ⟨rfl, rfl⟩
/-- Read of a slot. -/
def sreadV (s : FS) (F B : Int) (n : Int) : ByteArray × Int := if 0 ≤ n ∧ n ≤ 512 * B then preadV s F B 0 n else (⟨#[]⟩, 240)
theorem sread_any (q p bb cb : Nat) (F B : Int) (s : FS) (n : Int) (w : World) (hf : Fl 76 w p bb cb s) (hok : s.Ok) (h : Pa w q p F B) (hi : In s.n.length F B) (bn : -9223372036854775808 ≤ n ∧ n ≤ 9223372036854775807) :
    Calls Try.prog 18 #[.pointer (some ⟨q, 0, none⟩), .int .i64 n] w fun e w' => e = .returned (.tuple #[.string (sreadV s F B n).1, .int .i64 (sreadV s F B n).2]) ∧ w = w' := by
  have SZ := Box.mk (size_any q p F B _ w h hi)
  have RD := Box.mk (pread_any q p bb cb F B s 0 n w hf hok h hi (by omega) bn)
  by_cases g0 : n < 0
  · have g0' : decide (n < 0) = true := by simpa using g0
    have E : Box (sreadV s F B n = (⟨#[]⟩, 240)) := ⟨by unfold sreadV; rw [if_neg (by omega)]⟩
    obtain ⟨V, hV⟩ : ∃ V, V = sreadV s F B n := ⟨_, rfl⟩
    rw [← hV] at E ⊢
    obtain ⟨rfl⟩ := E
    clear hV g0 hf hok h hi bn
    go_enter Try.func18, Try.ntmps18
    go_wp2
    go_ret2
    exact ⟨rfl, rfl⟩
  · have g0' : decide (n < 0) = false := by simpa using g0
    by_cases g1 : 512 * B < n
    · have g1' : decide (512 * B < n) = true := by simpa using g1
      have E : Box (sreadV s F B n = (⟨#[]⟩, 240)) := ⟨by unfold sreadV; rw [if_neg (by omega)]⟩
      obtain ⟨V, hV⟩ : ∃ V, V = sreadV s F B n := ⟨_, rfl⟩
      rw [← hV] at E ⊢
      obtain ⟨rfl⟩ := E
      clear hV g0 g1 hf hok h hi bn
      go_enter Try.func18, Try.ntmps18
      go_wp2_with fail
      refine SZ.out.mono ?_
      rintro e w1 ⟨rfl, rfl⟩
      go_wp2_with fail
      go_ret2
      exact ⟨rfl, rfl⟩
    · have g1' : decide (512 * B < n) = false := by simpa using g1
      have E : Box (sreadV s F B n = preadV s F B 0 n) := ⟨by unfold sreadV; rw [if_pos (by omega)]⟩
      rw [← E.out] at RD
      generalize sreadV s F B n = V at RD ⊢
      obtain ⟨V1, V2⟩ := V
      dsimp only at RD ⊢
      clear E g0 g1 hf hok h hi bn
      go_enter Try.func18, Try.ntmps18
      go_wp2_with fail
      refine SZ.out.mono ?_
      rintro e w1 ⟨rfl, rfl⟩
      go_wp2_with fail
      refine RD.out.mono ?_
      rintro e w1 ⟨rfl, rfl⟩
      go_wp2_with fail
      go_ret2
      exact ⟨rfl, rfl⟩

set_option maxHeartbeats 4000000 in
theorem writes_any (g q p bb cb : Nat) (F B : Int) (s : FS) (page : List UInt8) (size : Int) (ended : Bool) (e0 : Int) (m tt : Nat) (l : List UInt8) (w : World) (hf : Fl 76 w p bb cb s) (hok : s.Ok) (h : Pa w q p F B) (hi : In s.n.length F B) (hw : Swr w g q page size ended e0)
    (hg : g ∉ [p, bb, cb]) (hq : q ∉ [p, bb, cb]) (hto : tt = m + l.length) (hm : m % 64 = 0) (hl1 : 1 ≤ l.length) (hl2 : l.length ≤ 64) (hto2 : tt ≤ 131072) (hpg : page.take l.length = l) :
    Calls Try.prog 32 #[.pointer (some ⟨g, 0, none⟩), .int .i64 tt] w fun e w' => e = .returned (.int .i64 (s.wpage F B m l).2) ∧ Fl 76 w' p bb cb (s.wpage F B m l).1 ∧ Upd [p, bb, cb] w w' := by
  obtain ⟨n, hn⟩ : ∃ n, n = l.length := ⟨_, rfl⟩
  rw [← hn] at hl1 hl2 hto hpg
  have hc := Box.mk (pclean_any q p bb cb F B s m 512 w hf hok h hi (by omega) (by omega))
  have hw1 : IntKind.i64.wrap ((tt : Int) - 1) = (tt : Int) - 1 := by rw [IntKind.wrap_i64]; omega
  have hr1 : ((tt : Int) - 1).tmod 64 = ((n - 1 : Nat) : Int) := by rw [Int.tmod_eq_emod_of_nonneg (by omega)]; omega
  have hr2 : IntKind.i64.wrap (((n - 1 : Nat) : Int)) = ((n - 1 : Nat) : Int) := by rw [IntKind.wrap_i64]; omega
  have hr3 : IntKind.i64.wrap (((n - 1 : Nat) : Int) + 1) = (n : Int) := by rw [IntKind.wrap_i64]; omega
  have hr4 : IntKind.i64.wrap ((tt : Int) - (n : Int)) = (m : Int) := by rw [IntKind.wrap_i64]; omega
  have hr5 : ((tt : Int) - 1) % 64 = ((n - 1 : Nat) : Int) := by omega
  have hnn : (0 : Int) ≤ (n : Int) ∧ (n : Int) ≤ 64 := by omega
  have hmI : (m : Int) ≤ 131072 := by omega
  -- what the block's erasing comes tt
  have HE : Box (s.wpage F B m l = if m % 512 = 0 then (if (s.wclean F B (m / 512)).2 ≠ 0 then s.wclean F B (m / 512) else (s.wclean F B (m / 512)).1.pwrite F B m l) else s.pwrite F B m l) := ⟨rfl⟩
  have HC : Box (m % 512 = 0 → s.wclean F B (m / 512) = if (pcleanV s F B m 512).2 ≠ 0 then (s, (pcleanV s F B m 512).2) else if (pcleanV s F B m 512).1 = true then (s, 0) else s.perase F B ((m : Int) / 512)) := ⟨fun h0 => by
    unfold FS.wclean
    rw [show 512 * (m / 512) = m by omega]
    congr 1⟩
  have OKC := Box.mk (FS.wclean_ok hok F B (m / 512))
  have HF := Box.mk hf; have HP := Box.mk h; have HOK := Box.mk hok; have HI := Box.mk hi; have HW := Box.mk hw; have HG := Box.mk hg; have HQ := Box.mk hq
  obtain ⟨c0, c1, c2, c3⟩ := hw.cells
  have HN := Box.mk hn; have HPG := Box.mk hpg; have HL := Box.mk hl2
  obtain ⟨V, hV⟩ : ∃ V, V = s.wpage F B m l := ⟨_, rfl⟩
  rw [← hV] at HE ⊢
  clear hV hf hok h hi hw hg hq hpg hn hto hm hto2 hl1 hl2 c1 c2 c3
  go_enter Try.func32, Try.ntmps32
  go_upto_if 19 with (fail)
  go_cut [] (fun wx => ∃ s1 : FS, s1.Ok ∧ s1.n.length = s.n.length ∧ V = s1.pwrite F B m l ∧ Fl 76 wx p bb cb s1 ∧ Upd [p, bb, cb] w wx)
  case first =>
    by_cases hb : m % 512 = 0
    · have hb1 : ((m : Int) % 512 == 0) = true := by rw [beq_iff_eq]; omega
      have HCC := Box.mk (HC.out hb)
      have hE := HE.out
      rw [if_pos hb] at hE
      generalize s.wclean F B (m / 512) = c at hE HCC OKC
      have HE2 := Box.mk hE
      have PE := Box.mk (perase_any q p bb cb F B s ((m : Int) / 512) w HF.out HOK.out HP.out HI.out)
      generalize s.perase F B ((m : Int) / 512) = r at PE HCC
      generalize pcleanV s F B m 512 = v at hc HCC
      obtain ⟨v1, v2⟩ := v
      obtain ⟨r1, r2⟩ := r
      dsimp only at hc HCC PE
      clear hb hE HE HC
      by_cases hv2 : v2 = 0
      · have hv2b : (v2 != 0) = false := by simpa using hv2
        have hcc := HCC.out
        rw [if_neg (by simpa using hv2)] at hcc
        clear hv2 HCC
        cases v1 with
        | true =>
          rw [if_pos rfl] at hcc
          have HX : Box (V = s.pwrite F B m l) := ⟨by have := HE2.out; rw [hcc, if_neg (by simp)] at this; exact this⟩
          clear hcc HE2 PE OKC
          go_wp2_with fail
          refine hc.out.mono ?_
          rintro e w1 ⟨rfl, rfl⟩
          go_wp2_with fail
          go_meet
          exact ⟨s, HOK.out, rfl, HX.out, HF.out, Upd.refl _ _⟩
        | false =>
          rw [if_neg (by simp)] at hcc
          have HE3 := HE2.out
          rw [hcc] at HE3 OKC
          have HE3 := Box.mk HE3
          dsimp only at HE3 OKC
          clear hcc HE2
          by_cases hr : r2 = 0
          · have hrb : (r2 != 0) = false := by simpa using hr
            have HX : Box (V = r1.pwrite F B m l) := ⟨by have := HE3.out; rw [if_neg (by simpa using hr)] at this; exact this⟩
            clear hr HE3
            go_wp2_with fail
            refine hc.out.mono ?_
            rintro e w1 ⟨rfl, rfl⟩
            go_wp2_with fail
            refine PE.out.mono ?_
            rintro e w2 ⟨rfl, hf2, hu2⟩
            have HF2 := Box.mk hf2; have HU2 := Box.mk hu2; clear hf2 hu2
            go_wp2_with fail
            go_meet
            exact ⟨r1, OKC.out.1, OKC.out.2, HX.out, HF2.out, HU2.out⟩
          · have hrb : (r2 != 0) = true := by rw [bne_iff_ne]; exact hr
            have HX : Box (V = (r1, r2)) := ⟨by have := HE3.out; rw [if_pos hr] at this; exact this⟩
            clear hr HE3
            obtain ⟨rfl⟩ := HX
            go_wp2_with fail
            refine hc.out.mono ?_
            rintro e w1 ⟨rfl, rfl⟩
            go_wp2_with fail
            refine PE.out.mono ?_
            rintro e w2 ⟨rfl, hf2, hu2⟩
            have HF2 := Box.mk hf2; have HU2 := Box.mk hu2; clear hf2 hu2
            go_wp2_with fail
            go_ret
            exact ⟨rfl, HF2.out, HU2.out⟩
      · have hv2b : (v2 != 0) = true := by rw [bne_iff_ne]; exact hv2
        have HX : Box (V = (s, v2)) := ⟨by have h1 := HCC.out; have h2 := HE2.out; rw [if_pos hv2] at h1; rw [h1, if_pos hv2] at h2; exact h2⟩
        clear hv2 HCC HE2 PE OKC
        obtain ⟨rfl⟩ := HX
        go_wp2_with fail
        refine hc.out.mono ?_
        rintro e w1 ⟨rfl, rfl⟩
        go_wp2_with fail
        go_ret
        exact ⟨rfl, HF.out, Upd.refl _ _⟩
    · have hb1 : ((m : Int) % 512 == 0) = false := by rw [beq_eq_false_iff_ne]; omega
      have hE := HE.out
      rw [if_neg hb] at hE
      have HX := Box.mk hE
      clear hb hE HE HC
      go_wp2_with fail
      go_meet
      exact ⟨s, HOK.out, rfl, HX.out, HF.out, Upd.refl _ _⟩
  case rest =>
    obtain ⟨s1, ok1, n1, hv, f1, u1⟩ := hcut
    have F1 := Box.mk f1; have OK1 := Box.mk ok1; have U1 := Box.mk u1; have N1 := Box.mk n1
    have P1 := Box.mk (HP.out.upd u1 HQ.out); have W1 := Box.mk (HW.out.upd u1 HG.out)
    obtain ⟨T, hT⟩ : ∃ T : ByteArray, T = ⟨l.toArray⟩ := ⟨_, rfl⟩
    have hTl : T.data.toList = l := by rw [hT]
    have hTs : T.size = n := by rw [HN.out, ← hTl]; simp
    have PW := Box.mk (fun w h hp => pwrite_any q p bb cb F B s1 m T w h OK1.out hp (by rw [N1.out]; exact HI.out) (by have := HQ.out; simp at this; exact this.2.1) (by have := HQ.out; simp at this; exact this.1) (by omega) (by omega))
    rw [hTl, ← hv] at PW
    have CV : Box (∀ w1, GrS [p, bb, cb] wc.drew w1 → (convert 54 9 (.slice (some ⟨g, 1, none⟩) n 64)).run Try.prog w1 = .ok (.string T) w1) := ⟨fun w1 hw1 => by
      have hr := hw1.at HG.out (show wc.drew.heap[g]? = _ from W1.out.row)
      rw [hT]
      refine run_bytes_at Try.prog w1 g 1 64 l 54 9 5 n HN.out.symm Try.underlying54 Try.underlying5 Try.underlying9 (fun j u hu => ?_)
      rw [cell_of_row _ _ _ _ _ _ hr, List.getElem?_toArray]
      have hj := (List.getElem?_eq_some_iff.1 hu).1
      rw [swc_byte (u := u) (by rw [← hu]; conv => rhs; rw [← HPG.out]
                                rw [List.getElem?_take, if_pos (by rw [HN.out]; exact hj)])]
      rfl⟩
    have ROW := Box.mk (show wc.drew.heap[g]? = some (.cells (swc q page size ended e0).toArray 71 (0, 0)) from W1.out.row)
    have LTS : Box (∀ k ∈ [p, bb, cb], k < wc.heap.size) := ⟨by have := F1.out.lt; intro k hk; simp at hk; omega⟩
    have FD := Box.mk (F1.out.upd (Upd.refl [] wc).drew (by simp) (by simp) (by simp))
    have PL := Box.mk HW.out.len
    clear f1 ok1 u1 n1 hv hT hTl hTs c0 hc HE HC OKC
    go_upto_region 11 with (fail)
    refine wp_region_mixS [p, bb, cb] (fun w => Fl 76 w p bb cb s1) (fun w w' hg h => h.upd hg.upd (by simp) (by simp) (by simp)) (FD.out) (LTS.out) 12 [.flo, .flo, .flo, .flo, .flo, .flo, .flo, .flo, .flo, .flo, .flo, .cha] (by kernel_rfl) (by kernel_rfl) rfl ?_
    simp only [List.take, List.zip, List.zipWith]
    try go_frame
    refine gm_move (.tmp 0) (.inl rfl) (.pointer (some ⟨g, 0, none⟩)) rfl ?_
    try go_frame
    refine gm_flo (.pointer (some ⟨g, 0, none⟩)) (fun w1 hw1 => ?_) ?_
    case refine_1 =>
      go_simp
    try go_frame
    refine gm_flo (.pointer (some ⟨g, 0, none⟩)) (fun w1 hw1 => ?_) ?_
    case refine_1 =>
      go_simp
    try go_frame
    refine gm_flo (.pointer (some ⟨q, 0, none⟩)) (fun w1 hw1 => ?_) ?_
    case refine_1 =>
      have e1 : w1.cell? ⟨g, 0, none⟩ = some (.pointer (some ⟨q, 0, none⟩)) := by rw [cell_of_row _ _ _ _ _ _ (hw1.at HG.out ROW.out), List.getElem?_toArray]; exact (swc_at PL.out).1
      go_simp
    try go_frame
    refine gm_move (.tmp 6) (.inl rfl) (.int .i64 (m : Nat)) rfl ?_
    try go_frame
    refine gm_move (.tmp 0) (.inl rfl) (.pointer (some ⟨g, 0, none⟩)) rfl ?_
    try go_frame
    refine gm_flo (.pointer (some ⟨g, 0, none⟩)) (fun w1 hw1 => ?_) ?_
    case refine_1 =>
      go_simp
    try go_frame
    refine gm_flo (.pointer (some ⟨g, 1, none⟩)) (fun w1 hw1 => ?_) ?_
    case refine_1 =>
      go_simp
    try go_frame
    refine gm_move (.tmp 5) (.inl rfl) (.int .i64 (n : Nat)) rfl ?_
    try go_frame
    refine gm_flo (.slice (some ⟨g, 1, none⟩) n 64) (fun w1 hw1 => ?_) ?_
    case refine_1 =>
      go_simp
    try go_frame
    refine gm_flo (.string T) (fun w1 hw1 => ?_) ?_
    case refine_1 =>
      have e1 := CV.out w1 hw1
      go_simp
    try go_frame
    refine gm_callS [.pointer (some ⟨q, 0, none⟩), .int .i64 (m : Nat), .string T] (by kernel_rfl) rfl rfl (fun w1 hw1 hF1 => (PW.out _ hF1 ((P1.out.upd (Upd.refl [] wc).drew (by simp)).upd hw1.upd HQ.out)).mono ?_)
    rintro e w2 ⟨rfl, hf, hu⟩
    refine ⟨_, rfl, GrS.of_upd hu (by simp), (fun w => Fl 76 w p bb cb V.1), (fun w w' hg h => h.upd hg.upd (by simp) (by simp) (by simp)), (hf), ?_⟩
    clear hw1 hF1 hf hu w1 w2
    try go_frame
    refine gm_nil ?_
    intro w9 hw9 hF9
    simp only [List.drop]
    try go_frame
    have H9 := Box.mk hF9; have U9 := Box.mk ((U1.out.trans (Upd.refl [p, bb, cb] wc).drew).trans hw9.upd)
    clear hF9 hw9
    go_wp2_with fail
    go_ret
    exact ⟨rfl, H9.out, U9.out⟩
end Go.Proofs.Ytopiopomioglfaa
