/- Logs: the plain answers of Open, Records, Room, Append, drop. Boot: the plain states and answers. Regions that draw their order and hold loads, calls that make memory, and new blocks, ahead of a tail of stores: one walk in the order of the text serves every order. The world is a variable throughout: it has grown out of the one in which the region began. Nothing of the program. Regions that draw their order and hold calls that change named blocks. Nothing of the program. Boot: how a store lies in memory; may, told, clean. Boot: may, body. -/
import Derived.Test.YtgcbmjflodgnbaaGreatDoorM04
import Derived.Test.YtgcbmjflodgnbaaGreatDoorM01
import Derived.StillTail
import Derived.Laws.Rows
import Derived.Laws.CopyOwn
import Derived.Deep.MidRow
namespace Go.Proofs.YtgcbmjflodgnbaaGreatDoor
set_option maxRecDepth 100000
set_option linter.unusedVariables false
open Go Go.RowKit

/-- How many of the first n hold, one behind the other. -/
def runB (p : Nat → Bool) : Nat → Nat
  | 0 => 0
  | n + 1 => if p 0 then 1 + runB (fun k => p (k + 1)) n else 0
theorem runB_le : ∀ (n : Nat) (p : Nat → Bool), runB p n ≤ n
  | 0, _ => Nat.le_refl _
  | n + 1, p => by
    rw [runB]; split
    · have := runB_le n (fun k => p (k + 1)); omega
    · omega
theorem runB_spec : ∀ (n : Nat) (p : Nat → Bool) (k : Nat), k ≤ n → (∀ j, j < k → p j = true) → (k = n ∨ p k = false) → runB p n = k
  | 0, p, k, h, _, _ => by simp [runB]; omega
  | n + 1, p, 0, _, _, h => by
    rcases h with h | h
    · omega
    · rw [runB, h]; simp
  | n + 1, p, k + 1, h, h1, h2 => by
    rw [runB, h1 0 (by omega), if_pos rfl, runB_spec n (fun k => p (k + 1)) k (by omega) (fun j hj => h1 (j + 1) (by omega)) (by
      rcases h2 with h2 | h2
      · exact .inl (by omega)
      · exact .inr h2)]
    omega
theorem runB_true : ∀ (n : Nat) (p : Nat → Bool) (j : Nat), j < runB p n → p j = true
  | 0, p, j, h => by simp [runB] at h
  | n + 1, p, 0, h => by
    rw [runB] at h
    by_cases hp : p 0 = true
    · exact hp
    · rw [if_neg hp] at h; omega
  | n + 1, p, j + 1, h => by
    rw [runB] at h
    by_cases hp : p 0 = true
    · rw [if_pos hp] at h
      exact runB_true n (fun k => p (k + 1)) j (by omega)
    · rw [if_neg hp] at h; omega
theorem runB_false : ∀ (n : Nat) (p : Nat → Bool), runB p n = n ∨ p (runB p n) = false
  | 0, p => .inl rfl
  | n + 1, p => by
    rw [runB]
    by_cases hp : p 0 = true
    · rw [if_pos hp]
      rcases runB_false n (fun k => p (k + 1)) with h | h
      · exact .inl (by omega)
      · exact .inr (by rw [show 1 + runB (fun k => p (k + 1)) n = runB (fun k => p (k + 1)) n + 1 by omega]; exact h)
    · rw [if_neg hp]; exact .inr (by simpa using hp)

/-- A block's, a page's bytes. -/
def FS.blk (s : FS) (F b : Nat) : List UInt8 := (s.b.drop (512 * (F + b))).take 512
def FS.pg (s : FS) (F b p : Nat) : List UInt8 := (s.b.drop (512 * (F + b) + 64 * p)).take 64
/-- A segment's first page. -/
def firstL (num : Nat) : List UInt8 := begL num ++ 0 :: List.replicate 56 255
theorem firstL_len (num : Nat) : (firstL num).length = 64 := by simp [firstL, begL, leList_length]
/-- The number of a first page; 0: it is none. -/
def numL (p : List UInt8) : Nat :=
  let n := leNat ((p.drop 1).take 6)
  if n = 0 ∨ firstL n ≠ p then 0 else n
/-- The numbers of a part's blocks. -/
def FS.nums (s : FS) (F B : Nat) : List Nat := (List.range B).map fun b => numL (s.pg F b 0)
/-- The newest of the first k blocks. -/
def nwst (nums : List Nat) : Nat → Nat
  | 0 => 0
  | k + 1 => if nums.getD k 0 > nums.getD (nwst nums k) 0 then k else nwst nums k
/-- Does the k-th block behind the newest go on with the numbers? -/
def backP (nums : List Nat) (nw k : Nat) : Bool := decide (k < nums.getD nw 0) && decide (nums.getD ((nw + nums.length - k) % nums.length) 0 = nums.getD nw 0 - k)
/-- The segments that are found. -/
def segsOf (nums : List Nat) (nw : Nat) : List (Nat × Nat) := ((List.range (runB (backP nums nw) nums.length)).map fun k => ((nw + nums.length - k) % nums.length, nums.getD nw 0 - k)).reverse
/-- What Open tells: an error, or the segments. -/
def FS.lopen (s : FS) (F B : Nat) : Except Int (List (Nat × Nat)) :=
  if B < 4 then .error 140 else if s.dead then .error 2 else
  let nums := s.nums F B
  let nw := nwst nums B
  if nums.getD nw 0 = 0 ∨ 140737488355328 < nums.getD nw 0 then .error 140 else .ok (segsOf nums nw)
/-- Is there a record's head at a page of a block's bytes? -/
def hdrL (s : List UInt8) (p : Nat) : Bool := s.getD (64 * p) 0 == 1 && s.getD (64 * p + 3) 0 == 0
def lenL (s : List UInt8) (p : Nat) : Nat := leNat ((s.drop (64 * p + 1)).take 2)
/-- The bytes of m pages from p on, as a record's. -/
def bodyL (s : List UInt8) (p : Nat) : Nat → List UInt8
  | 0 => []
  | 1 => (s.drop (64 * p + 4)).take 60
  | m + 1 => bodyL s p m ++ (s.drop (64 * (p + m) + 1)).take 63
def goesL (s : List UInt8) (p : Nat) (k : Nat) : Bool := s.getD (64 * (p + 1 + k)) 0 == 2
/-- The record at a page, and how many pages it takes; 0: none. -/
def recL (s : List UInt8) (p : Nat) : List UInt8 × Nat :=
  if hdrL s p = false then ([], 0) else
  if pgs (lenL s p) = 0 ∨ 8 < p + pgs (lenL s p) then ([], 0) else
  if runB (goesL s p) (pgs (lenL s p) - 1) < pgs (lenL s p) - 1 then ([], 0) else
  ((bodyL s p (pgs (lenL s p))).take (lenL s p), pgs (lenL s p))
def recsFrom (s : List UInt8) : Nat → Nat → List (List UInt8)
  | 0, _ => []
  | f + 1, p => if p < 8 then (if (recL s p).2 = 0 then recsFrom s f (p + 1) else (recL s p).1 :: recsFrom s f (p + (recL s p).2)) else []
def recsL (s : List UInt8) : List (List UInt8) := recsFrom s 8 1
/-- A segment's records. -/
def FS.lrecs (s : FS) (F : Nat) (l : LS) (num : Int) : Except Int (List (List UInt8)) :=
  match l.segs.find? fun x => (x.2 : Int) == num with
  | none => .error 140
  | some x => if l.dead || s.dead then .error 2 else .ok (recsL (s.blk F x.1))
/-- The newest segment. -/
def LS.newest (l : LS) : Nat × Nat := l.segs.getD (l.segs.length - 1) (0, 0)
/-- How many pages at the newest segment's end are erased. -/
def clnL (s : List UInt8) (k : Nat) : Bool := ((s.drop (64 * (7 - k))).take 64).all (· == 255)
def FS.lroom (s : FS) (F : Nat) (l : LS) : Nat := if s.dead then 0 else runB (clnL (s.blk F l.newest.1)) 7
/-- A record's page. -/
def pageL (r : List UInt8) (i : Nat) : List UInt8 := if i = 0 then 1 :: (leList 2 r.length ++ 255 :: r.take 60) else 2 :: (r.drop (60 + 63 * (i - 1))).take 63
/-- Its pages from i on, m of them, are written. -/
def FS.lpages (F B : Int) (at_ : Nat) (r : List UInt8) : Nat → Nat → FS → LS → FS × LS × Int
  | 0, _, s, l => (s, l, 0)
  | m + 1, i, s, l =>
    let a := s.lwrite F B l (at_ + 64 * i) (pageL r i)
    if a.2.2 ≠ 0 then a else FS.lpages F B at_ r m (i + 1) a.1 a.2.1
def FS.lput (s : FS) (F B : Nat) (l : LS) (r : List UInt8) : FS × LS × Int :=
  let at_ := 512 * l.newest.1 + 64 * (8 - s.lroom F l)
  let a := FS.lpages F B at_ r (pgs r.length) 0 s l
  if a.2.2 ≠ 0 then a else a.1.lwrite F B a.2.1 (at_ + 3) [0]
def FS.lappend (s : FS) (F B : Nat) (l : LS) (r : List UInt8) (spare : Int) : FS × LS × Int :=
  if spare < 0 then (s, l, 1) else
  if 400 < r.length then (s, l, 141) else
  if l.dead then (s, l, 2) else
  if s.dead then (s, l.told 2, 2) else
  if pgs r.length > s.lroom F l then
    if ((B - l.segs.length : Nat) : Int) ≤ spare then (s, l, 142) else
    let m := s.lmakes F B l ((l.newest.1 + 1) % B) (l.newest.2 + 1)
    if m.2.2 ≠ 0 then m else m.1.lput F B m.2.1 r
  else s.lput F B l r
def FS.ldrop (s : FS) (F B : Nat) (l : LS) (i : Nat) : FS × LS × Int :=
  if l.segs.length = 1 then (s, l, 140) else
  if l.dead then (s, l, 2) else
  let r := s.perase F B (l.segs.getD i (0, 0)).1
  if r.2 ≠ 0 then (r.1, l.told r.2, r.2) else (r.1, { (l.told 0) with segs := l.segs.eraseIdx i }, 0)
def FS.lcleans (s : FS) (F B : Int) (l : LS) : Nat → FS × LS × Int
  | 0 => (s, l, 0)
  | k + 1 => if (FS.lcleans s F B l k).2.2 ≠ 0 then FS.lcleans s F B l k else (FS.lcleans s F B l k).1.lclean F B (FS.lcleans s F B l k).2.1 k
def FS.lformat (s : FS) (F B : Nat) : FS × LS × Int :=
  if B < 4 then (s, ⟨[], false⟩, 140) else
  let c := FS.lcleans s F B ⟨[], false⟩ B
  if c.2.2 ≠ 0 then c else c.1.lmakes F B c.2.1 0 1
end Go.Proofs.YtgcbmjflodgnbaaGreatDoor
namespace Go.Proofs.YtgcbmjflodgnbaaGreatDoor
set_option maxRecDepth 100000
set_option linter.unusedVariables false
open Go Go.RowKit

/-- A boot record. -/
structure BR where
  slot : Int
  up : Bool
  count : Int
  s0 : Int
  s1 : Int
theorem BR.ext' {a b : BR} (h1 : a.slot = b.slot) (h2 : a.up = b.up) (h3 : a.count = b.count) (h4 : a.s0 = b.s0) (h5 : a.s1 = b.s1) : a = b := by
  cases a; cases b; simp only at h1 h2 h3 h4 h5; subst h1 h2 h3 h4 h5; rfl
theorem BR.eq_iff (a b : BR) : a = b ↔ (a.slot = b.slot ∧ a.up = b.up ∧ a.count = b.count ∧ a.s0 = b.s0 ∧ a.s1 = b.s1) :=
  ⟨fun h => by subst h; exact ⟨rfl, rfl, rfl, rfl, rfl⟩, fun ⟨h1, h2, h3, h4, h5⟩ => BR.ext' h1 h2 h3 h4 h5⟩
instance : DecidableEq BR := fun a b => decidable_of_iff _ (BR.eq_iff a b).symm
def BR.zero : BR := ⟨0, false, 0, 0, 0⟩
/-- May a record be? -/
structure BR.May (r : BR) : Prop where
  slot : r.slot = 0 ∨ r.slot = 1
  count : 0 ≤ r.count ∧ r.count ≤ 7
  s0 : 0 ≤ r.s0 ∧ r.s0 ≤ 16777215
  s1 : 0 ≤ r.s1 ∧ r.s1 ≤ 16777215
@[irreducible] def BR.may (r : BR) : Bool := decide ((r.slot = 0 ∨ r.slot = 1) ∧ (0 ≤ r.count ∧ r.count ≤ 7) ∧ (0 ≤ r.s0 ∧ r.s0 ≤ 16777215) ∧ (0 ≤ r.s1 ∧ r.s1 ≤ 16777215))
theorem BR.may_iff (r : BR) : r.may = true ↔ r.May := by
  unfold BR.may; rw [decide_eq_true_iff]; exact ⟨fun ⟨a, b, c, d⟩ => ⟨a, b, c, d⟩, fun ⟨a, b, c, d⟩ => ⟨a, b, c, d⟩⟩
theorem BR.may_no (r : BR) : r.may = false ↔ ¬ r.May := by rw [← BR.may_iff]; cases r.may <;> simp
/-- Which slot boots, and the record behind it. -/
def BR.next (r : BR) : Int × BR :=
  if r.up = false then (r.slot, r)
  else if r.count < 1 then (r.slot, { r with count := wrap64 (r.count + 1) })
  else (wrap64 (1 - r.slot), ⟨wrap64 (1 - r.slot), false, 0, r.s0, r.s1⟩)
/-- A record's page, its first bytes. -/
def bodyB (r : BR) (n : Nat) : List UInt8 :=
  66 :: (leList 6 n ++ (UInt8.ofNat r.slot.toNat :: (if r.up then 1 else 0) :: UInt8.ofNat r.count.toNat :: (leList 3 r.s0.toNat ++ leList 3 r.s1.toNat)))
def pageB (r : BR) (n : Nat) : List UInt8 := bodyB r n ++ (List.replicate 47 255 ++ [0])
/-- What a page tells. -/
def readB (p : List UInt8) : BR := ⟨(p.getD 7 0).toNat, p.getD 8 0 == 1, (p.getD 9 0).toNat, leNat ((p.drop 10).take 3), leNat ((p.drop 13).take 3)⟩
def numB (p : List UInt8) : Nat := leNat ((p.drop 1).take 6)
/-- Does it count? -/
def cntB (p : List UInt8) : Bool := decide (1 ≤ numB p) && (readB p).may && decide (pageB (readB p) (numB p) = p)
/-- A store's state. -/
structure BS where
  r : BR
  seq : Nat
  block : Nat
  dead : Bool
def BS.told (t : BS) (e : Int) : BS := { t with dead := t.dead || e == 2 }
/-- The last one of the first k pages. -/
def FS.bscan (s : FS) (F : Nat) : Nat → BS
  | 0 => ⟨BR.zero, 0, 0, false⟩
  | k + 1 => if cntB (s.pg F 0 k) = true ∧ (FS.bscan s F k).seq < numB (s.pg F 0 k) then ⟨readB (s.pg F 0 k), numB (s.pg F 0 k), k / 8, false⟩ else FS.bscan s F k
def FS.bopen (s : FS) (F : Nat) : Except Int BS :=
  if s.dead then .error 2 else
  if (s.bscan F 16).seq = 0 then .error 131 else
  if 140737488355328 < (s.bscan F 16).seq then .error 130 else .ok (s.bscan F 16)
/-- Is a page erased? -/
def FS.bcl (s : FS) (F i : Nat) : Bool := (s.pg F 0 i).all (· == 255)
/-- The page behind the last one that is not, of the first k of a block. -/
def FS.bfree (s : FS) (F b : Nat) : Nat → Nat
  | 0 => 0
  | k + 1 => if s.bcl F (8 * b + k) = true then FS.bfree s F b k else k + 1
def FS.bclean (s : FS) (F : Nat) (t : BS) (b : Nat) : FS × BS × Int := ((s.wclean F 2 b).1, t.told (s.wclean F 2 b).2, (s.wclean F 2 b).2)
def FS.bwrite (s : FS) (F : Nat) (t : BS) (at_ : Nat) (l : List UInt8) : FS × BS × Int := ((s.pwrite F 2 at_ l).1, t.told (s.pwrite F 2 at_ l).2, (s.pwrite F 2 at_ l).2)
def FS.bkeep (s : FS) (F : Nat) (t : BS) (r : BR) (n b p : Nat) : FS × BS × Int :=
  let a := s.bwrite F t (512 * b + 64 * p) (bodyB r n)
  if a.2.2 ≠ 0 then a else
  let z := a.1.bwrite F a.2.1 (512 * b + 64 * p + 63) [0]
  if z.2.2 ≠ 0 then z else (z.1, ⟨r, n, b, z.2.1.dead⟩, 0)
def FS.bput (s : FS) (F : Nat) (t : BS) (r : BR) : FS × BS × Int :=
  if r.may = false then (s, t, 130) else
  if t.dead then (s, t, 2) else
  if s.dead then (s, t.told 2, 2) else
  if s.bfree F t.block 8 = 8 then
    let c := s.bclean F t (1 - t.block)
    if c.2.2 ≠ 0 then c else c.1.bkeep F c.2.1 r (t.seq + 1) (1 - t.block) 0
  else s.bkeep F t r (t.seq + 1) t.block (s.bfree F t.block 8)
def FS.bformat (s : FS) (F : Nat) (r : BR) : FS × BS × Int :=
  let t : BS := ⟨BR.zero, 0, 0, false⟩
  if r.may = false then (s, t, 130) else
  let a := s.bclean F t 0
  if a.2.2 ≠ 0 then a else
  let c := a.1.bclean F a.2.1 1
  if c.2.2 ≠ 0 then c else c.1.bkeep F c.2.1 r 1 0 0
theorem FS.bclean_ok {s : FS} (h : s.Ok) (F : Nat) (t : BS) (b : Nat) : (s.bclean F t b).1.Ok ∧ (s.bclean F t b).1.n.length = s.n.length := FS.wclean_ok h F 2 b
theorem FS.bwrite_ok {s : FS} (h : s.Ok) (F : Nat) (t : BS) (a : Nat) (l : List UInt8) : (s.bwrite F t a l).1.Ok ∧ (s.bwrite F t a l).1.n.length = s.n.length := FS.pwrite_ok h F 2 a l
theorem FS.bkeep_ok {s : FS} (h : s.Ok) (F : Nat) (t : BS) (r : BR) (n b p : Nat) : (s.bkeep F t r n b p).1.Ok ∧ (s.bkeep F t r n b p).1.n.length = s.n.length := by
  unfold FS.bkeep
  have h2 := FS.bwrite_ok h F t (512 * b + 64 * p) (bodyB r n)
  dsimp only
  generalize s.bwrite F t (512 * b + 64 * p) (bodyB r n) = a at h2 ⊢
  have h3 := FS.bwrite_ok h2.1 F a.2.1 (512 * b + 64 * p + 63) [0]
  split
  · exact h2
  · generalize a.1.bwrite F a.2.1 (512 * b + 64 * p + 63) [0] = z at h3 ⊢
    split <;> exact ⟨h3.1, h3.2.trans h2.2⟩
theorem FS.bput_ok {s : FS} (h : s.Ok) (F : Nat) (t : BS) (r : BR) : (s.bput F t r).1.Ok ∧ (s.bput F t r).1.n.length = s.n.length := by
  unfold FS.bput
  have hc := FS.bclean_ok h F t (1 - t.block)
  generalize s.bclean F t (1 - t.block) = c at hc ⊢
  dsimp only
  have hk := FS.bkeep_ok hc.1 F c.2.1 r (t.seq + 1) (1 - t.block) 0
  have hk2 := FS.bkeep_ok h F t r (t.seq + 1) t.block (s.bfree F t.block 8)
  (repeat' split) <;> first | exact ⟨h, rfl⟩ | exact hc | exact ⟨hk.1, hk.2.trans hc.2⟩ | exact hk2
theorem FS.bformat_ok {s : FS} (h : s.Ok) (F : Nat) (r : BR) : (s.bformat F r).1.Ok ∧ (s.bformat F r).1.n.length = s.n.length := by
  unfold FS.bformat
  dsimp only
  have ha := FS.bclean_ok h F ⟨BR.zero, 0, 0, false⟩ 0
  generalize s.bclean F ⟨BR.zero, 0, 0, false⟩ 0 = a at ha ⊢
  have hc := FS.bclean_ok ha.1 F a.2.1 1
  generalize a.1.bclean F a.2.1 1 = c at hc ⊢
  have hk := FS.bkeep_ok hc.1 F c.2.1 r 1 0 0
  (repeat' split) <;> first | exact ⟨h, rfl⟩ | exact ha | exact ⟨hc.1, hc.2.trans ha.2⟩ | exact ⟨hk.1, hk.2.trans (hc.2.trans ha.2)⟩
theorem bodyB_len (r : BR) (n : Nat) : (bodyB r n).length = 16 := by simp [bodyB, leList_length]
theorem pageB_len (r : BR) (n : Nat) : (pageB r n).length = 64 := by simp [pageB, bodyB_len]
end Go.Proofs.YtgcbmjflodgnbaaGreatDoor
namespace Go.Proofs.YtgcbmjflodgnbaaGreatDoor
set_option maxRecDepth 100000
set_option linter.unusedVariables false
open Go Go.RowKit

/-- The world has grown: what was there stands. -/
def Gr (w w' : World) : Prop := Below w.heap.size w w'
theorem Gr.refl (w : World) : Gr w w := Below.refl _ _
theorem Gr.size {w w' : World} (h : Gr w w') : w.heap.size ≤ w'.heap.size := Below.size h
theorem Gr.trans {a b c : World} (h : Gr a b) (k : Gr b c) : Gr a c := Below.trans h (Below.mono k h.size)
theorem Gr.alloc (w : World) (o : Obj) : Gr w (w.alloc o) := (Below.refl _ _).alloc (Nat.le_refl _) o
theorem Gr.block {w w' : World} (h : Gr w w') {b : Nat} {x : Obj} (hb : w.heap[b]? = some x) : w'.heap[b]? = some x :=
  (Below.block h b (Array.getElem?_eq_some_iff.1 hb).1).trans hb
theorem Gr.lt {w w' : World} (h : Gr w w') {b : Nat} (hb : b < w.heap.size) : b < w'.heap.size := Nat.lt_of_lt_of_le hb h.size
theorem Gr.below {w w' : World} (h : Gr w w') : Below w.heap.size w w' := h
theorem Gr.of {w w' : World} (h : Below w.heap.size w w') : Gr w w' := h
theorem Gr.blt {w : World} {b : Nat} {x : Obj} (hb : w.heap[b]? = some x) : b < w.heap.size := (Array.getElem?_eq_some_iff.1 hb).1

theorem Gr.setRow {w w' : World} (h : Gr w w') {b : Nat} (hb : w.heap.size ≤ b) (cs : Array Value) : Gr w (w'.setRow b cs) := below_setRow h hb cs
/-- The same but for some blocks. -/
structure GrS (S : List Nat) (w w' : World) : Prop where
  os : w'.os = w.os
  tape : w'.tape = w.tape
  output : w'.output = w.output
  size : w.heap.size ≤ w'.heap.size
  block : ∀ k, k < w.heap.size → k ∉ S → w'.heap[k]? = w.heap[k]?
theorem Gr.toS {w w' : World} (h : Gr w w') (S : List Nat) : GrS S w w' := ⟨h.os, h.tape, h.output, Below.size h, fun k hk _ => Below.block h k hk⟩
theorem GrS.toGr {w w' : World} (h : GrS [] w w') : Gr w w' := ⟨h.os, h.tape, h.output, h.size, fun k hk => h.block k hk (fun h => by cases h)⟩
theorem GrS.refl (S : List Nat) (w : World) : GrS S w w := (Gr.refl w).toS S
theorem GrS.trans {S : List Nat} {a b c : World} (h : GrS S a b) (k : GrS S b c) : GrS S a c :=
  ⟨k.os.trans h.os, k.tape.trans h.tape, k.output.trans h.output, Nat.le_trans h.size k.size, fun i hi hn => (k.block i (Nat.lt_of_lt_of_le hi h.size) hn).trans (h.block i hi hn)⟩
theorem GrS.at {S : List Nat} {w w' : World} (h : GrS S w w') {b : Nat} (hn : b ∉ S) {x : Obj} (hb : w.heap[b]? = some x) : w'.heap[b]? = some x :=
  (h.block b (Array.getElem?_eq_some_iff.1 hb).1 hn).trans hb
theorem GrS.lt {S : List Nat} {w w' : World} (h : GrS S w w') {b : Nat} (hb : b < w.heap.size) : b < w'.heap.size := Nat.lt_of_lt_of_le hb h.size
theorem GrS.setRow {S : List Nat} {w w' : World} (h : GrS S w w') {b : Nat} (hb : w.heap.size ≤ b ∨ b ∈ S) (cs : Array Value) : GrS S w (w'.setRow b cs) :=
  ⟨by rw [setRow_os]; exact h.os, by rw [setRow_tape]; exact h.tape, by rw [setRow_output]; exact h.output, by rw [setRow_size]; exact h.size, fun k hk hn => by
    rw [setRow_other _ _ _ _ (fun e => by
      rcases hb with hb | hb
      · omega
      · exact hn (e ▸ hb))]; exact h.block k hk hn⟩
/-- .. or but for some blocks that are new. -/
def GrD (S N : List Nat) (w w' : World) : Prop := ∃ D, (∀ d ∈ D, d ∈ N) ∧ GrS (S ++ D) w w'
theorem GrS.d {S N : List Nat} {w w' : World} (h : GrS S w w') : GrD S N w w' := ⟨[], (fun _ h => by cases h), by rw [List.append_nil]; exact h⟩
theorem GrD.sub {S N N' : List Nat} {w w' : World} (h : GrD S N w w') (hn : ∀ b, b ∈ N → b ∈ N') : GrD S N' w w' := by
  obtain ⟨D, h1, h2⟩ := h
  exact ⟨D, fun d hd => hn d (h1 d hd), h2⟩
theorem GrD.size {S N : List Nat} {w w' : World} (h : GrD S N w w') : w.heap.size ≤ w'.heap.size := h.elim fun _ h => h.2.size
theorem GrD.lt {S N : List Nat} {w w' : World} (h : GrD S N w w') {b : Nat} (hb : b < w.heap.size) : b < w'.heap.size := Nat.lt_of_lt_of_le hb h.size
theorem GrD.at {S N : List Nat} {w w' : World} (h : GrD S N w w') {b : Nat} (hn : b ∉ S) (hn' : b ∉ N) {x : Obj} (hb : w.heap[b]? = some x) : w'.heap[b]? = some x := by
  obtain ⟨D, h1, h2⟩ := h
  exact h2.at (fun h => (List.mem_append.1 h).elim hn (fun h => hn' (h1 _ h))) hb
theorem GrD.trans {S N : List Nat} {a b c : World} (h : GrS S a b) (k : GrD S N b c) (hn : ∀ x ∈ N, a.heap.size ≤ x) : GrS S a c := by
  obtain ⟨D, h1, h2⟩ := k
  exact ⟨h2.os.trans h.os, h2.tape.trans h.tape, h2.output.trans h.output, Nat.le_trans h.size h2.size, fun i hi hs => (h2.block i (Nat.lt_of_lt_of_le hi h.size) (fun hm => (List.mem_append.1 hm).elim hs (fun hm => by have := hn i (h1 i hm); omega))).trans (h.block i hi hs)⟩
/-- What an operation of a region is: it yields one value in every world; it is a call; it makes a block. -/
inductive Kd where
  | flo
  | cha
  | new (X : Obj)
def Kd.isFlo : Kd → Bool | .flo => true | _ => false
def Kd.isCha : Kd → Bool | .cha => true | _ => false
/-- What stays true as the world grows. -/
def Stb (F : World → Prop) : Prop := ∀ w w', Gr w w' → F w → F w'

section
variable {P : Program} {W : World} {S : List Nat} {ops : Array Oper}

def yieldsG (P : Program) (W : World) (S : List Nat) (o : Oper) (a : Act) (v : Value) : Prop := ∀ w, GrS S W w → (execOp a.eval o).run P w = .ok (.value v) w ∨ ((execOp a.eval o).run P w = .ok .skip w ∧ v = undef)
def makesG (P : Program) (W : World) (S : List Nat) (o : Oper) (a : Act) (X : Obj) : Prop :=
  ∀ w, GrS S W w → (execOp a.eval o).run P w = .ok (.value (.pointer (some ⟨w.heap.size, 0, none⟩))) (w.alloc X)
/-- A call that comes back, or a store. -/
def steps (P : Program) (S : List Nat) (o : Oper) (a : Act) (w : World) (R : Value → World → Prop) : Prop :=
  (∃ f args, (execOp a.eval o).run P w = .ok (.enter f args) w ∧ Calls P f args w (fun e w' => ∃ v, e = .returned v ∧ R v w')) ∨
  (∃ w', (execOp a.eval o).run P w = .ok .skip w' ∧ R undef w') ∨ (∃ v w', (execOp a.eval o).run P w = .ok (.value v) w' ∧ R v w')
theorem steps.mono {o : Oper} {a : Act} {w : World} {R R' : Value → World → Prop} (h : steps P S o a w R) (hr : ∀ v w', R v w' → R' v w') : steps P S o a w R' := by
  rcases h with ⟨f, args, he, hc⟩ | ⟨w', he, h⟩ | ⟨v, w', he, h⟩
  · exact .inl ⟨f, args, he, hc.mono fun _ _ ⟨v, hv, h⟩ => ⟨v, hv, hr _ _ h⟩⟩
  · exact .inr (.inl ⟨w', he, hr _ _ h⟩)
  · exact .inr (.inr ⟨v, w', he, hr _ _ h⟩)
theorem steps.some {o : Oper} {a : Act} {w : World} {R : Value → World → Prop} (h : steps P S o a w R) : ∃ v w', R v w' := by
  rcases h with ⟨f, args, _, hc⟩ | ⟨w', _, h⟩ | ⟨v, w', _, h⟩
  · obtain ⟨_, w', _, ⟨v, _, h⟩, _⟩ := hc []
    exact ⟨v, w', h⟩
  · exact ⟨_, w', h⟩
  · exact ⟨_, w', h⟩
theorem steps.congr {o : Oper} {a a' : Act} {w : World} {R : Value → World → Prop} (he : execOp a'.eval o = execOp a.eval o) (h : steps P S o a w R) : steps P S o a' w R := by
  unfold steps at h ⊢; rw [he]; exact h
theorem steps.wp {o : Oper} {a : Act} {w : World} {R : Value → World → Prop} {K : Act → World → Prop} {Q : Exit → Act → World → Prop} (h : steps P S o a w R) (hk : ∀ v w', R v w' → K (a.put o.dst v) w') : o.wp P a w K Q := by
  unfold Oper.wp
  rcases h with ⟨f, args, he, hc⟩ | ⟨w', he, h⟩ | ⟨v, w', he, h⟩
  · rw [he]; exact hc.mono fun e w' ⟨v, hv, h⟩ => by subst hv; exact hk _ _ h
  · rw [he]; exact hk _ _ h
  · rw [he]; exact hk _ _ h
def wpG (P : Program) (W : World) (S : List Nat) (T : (World → Prop) → List Nat → Act → Prop) : List (Oper × Kd) → (World → Prop) → List Nat → Act → Prop
  | [], F, N, a => T F N a
  | (o, .flo) :: L, F, N, a => ∃ v, yieldsG P W S o a v ∧ wpG P W S T L F N (a.put o.dst v)
  | (o, .new X) :: L, F, N, a => makesG P W S o a X ∧ ∀ b, W.heap.size ≤ b → b ∉ N → wpG P W S T L (fun w => F w ∧ w.heap[b]? = some X) (b :: N) (a.put o.dst (.pointer (some ⟨b, 0, none⟩)))
  | (o, .cha) :: L, F, N, a => ∀ w, GrS S W w → F w → steps P S o a w (fun v w' => GrD S N w w' ∧ ∃ F' N', Stb F' ∧ F' w' ∧ (∀ b ∈ N', w.heap.size ≤ b ∧ b < w'.heap.size) ∧ wpG P W S T L F' (N' ++ N) (a.put o.dst v))

theorem Stb.tt : Stb (fun _ => True) := fun _ _ _ _ => trivial
theorem Stb.row (b : Nat) (X : Obj) : Stb (fun w => True ∧ w.heap[b]? = some X) := fun _ _ hg h => ⟨trivial, hg.block h.2⟩
theorem Stb.new {F : World → Prop} (h : Stb F) (b : Nat) (X : Obj) : Stb (fun w => F w ∧ w.heap[b]? = some X) :=
  fun w w' hg ⟨h1, h2⟩ => ⟨h w w' hg h1, hg.block h2⟩
theorem wpG_sub {P : Program} {W : World} {S : List Nat} {T : (World → Prop) → List Nat → Act → Prop} (hT : ∀ F N N' a, (∀ b, b ∈ N → b ∈ N') → T F N a → T F N' a) : ∀ (L : List (Oper × Kd)) (F : World → Prop) (N N' : List Nat) (a : Act), (∀ b, b ∈ N → b ∈ N') → wpG P W S T L F N a → wpG P W S T L F N' a
  | [], F, N, N', a, h, hg => hT F N N' a h hg
  | (o, .flo) :: L, F, N, N', a, h, ⟨v, hv, hg⟩ => ⟨v, hv, wpG_sub hT L F N N' _ h hg⟩
  | (o, .new X) :: L, F, N, N', a, h, ⟨hm, hg⟩ => ⟨hm, fun b hb hn => wpG_sub hT L _ (b :: N) (b :: N') _ (fun c hc => by
      rcases List.mem_cons.1 hc with h' | h'
      · exact h' ▸ List.mem_cons_self
      · exact List.mem_cons_of_mem _ (h c h')) (hg b hb (fun h' => hn (h b h')))⟩
  | (o, .cha) :: L, F, N, N', a, h, hg => fun w hw hF => by
    refine (hg w hw hF).mono fun v w' ⟨hgr, F', M, hs, hF', hl, h'⟩ => ⟨hgr.sub h, F', M, hs, hF', hl, wpG_sub hT L F' (M ++ N) (M ++ N') _ (fun b hb => ?_) h'⟩
    rcases List.mem_append.1 hb with h' | h'
    · exact List.mem_append_left _ h'
    · exact List.mem_append_right _ (h b h')
theorem and_swap3 (F : World → Prop) (p q : World → Prop) : (fun w => (F w ∧ p w) ∧ q w) = (fun w => (F w ∧ q w) ∧ p w) := by
  funext w; exact propext ⟨fun ⟨⟨a, b⟩, c⟩ => ⟨⟨a, c⟩, b⟩, fun ⟨⟨a, b⟩, c⟩ => ⟨⟨a, c⟩, b⟩⟩

structure Apt (ops : Array Oper) (j i : Oper) : Prop where
  ap : j.apart ops i = true
  sj : ∀ cs b, j.op ≠ .select cs b
  si : ∀ cs b, i.op ≠ .select cs b
theorem Apt.exec_i {i j : Oper} (h : Apt ops j i) (a : Act) (u : Value) : execOp (a.put j.dst u).eval i = execOp a.eval i :=
  execOp_put i h.si a j.dst u (Oper.apart_spec h.ap).1
theorem Apt.exec_j {i j : Oper} (h : Apt ops j i) (a : Act) (u : Value) : execOp (a.put i.dst u).eval j = execOp a.eval j :=
  execOp_put j h.sj a i.dst u (Oper.apart_spec h.ap).2.2
theorem Apt.comm {i j : Oper} (h : Apt ops j i) (a : Act) (u v : Value) : (a.put j.dst u).put i.dst v = (a.put i.dst v).put j.dst u :=
  Act.put_comm a u v (Oper.apart_spec h.ap).2.1

variable {T : (World → Prop) → List Nat → Act → Prop} {oi : Oper}


/-- What is known of a world on the way. -/
structure Known (W : World) (S : List Nat) (F : World → Prop) (N : List Nat) (w : World) : Prop where
  st : Stb F
  gr : GrS S W w
  fa : F w
  lt : ∀ b ∈ N, b < w.heap.size
  ge : ∀ b ∈ N, W.heap.size ≤ b
theorem Known.new {F : World → Prop} {N : List Nat} {w : World} (h : Known W S F N w) (X : Obj) : Known W S (fun x => F x ∧ x.heap[w.heap.size]? = some X) (w.heap.size :: N) (w.alloc X) :=
  ⟨h.st.new _ X, h.gr.trans ((Gr.alloc _ _).toS S), ⟨h.st _ _ (Gr.alloc _ _) h.fa, heap_alloc_new _ _⟩, fun b hb => by
    rcases List.mem_cons.1 hb with h' | h'
    · subst h'; simp
    · have := h.lt b h'; simp; omega, fun b hb => by
    rcases List.mem_cons.1 hb with h' | h'
    · subst h'; exact h.gr.size
    · exact h.ge b h'⟩
theorem Known.fresh {F : World → Prop} {N : List Nat} {w : World} (h : Known W S F N w) : w.heap.size ∉ N := fun hb => Nat.lt_irrefl _ (h.lt _ hb)
theorem Known.call {F F' : World → Prop} {N M : List Nat} {w w' : World} (h : Known W S F N w) (hg : GrD S N w w') (hs : Stb F') (hF : F' w') (hl : ∀ b ∈ M, w.heap.size ≤ b ∧ b < w'.heap.size) : Known W S F' (M ++ N) w' :=
  ⟨hs, hg.trans h.gr h.ge, hF, fun b hb => by
    rcases List.mem_append.1 hb with h' | h'
    · exact (hl b h').2
    · exact hg.lt (h.lt b h'), fun b hb => by
    rcases List.mem_append.1 hb with h' | h'
    · exact Nat.le_trans h.gr.size (hl b h').1
    · exact h.ge b h'⟩

theorem ex_flo {B : List (Oper × Kd)} : ∀ (A : List (Oper × Kd)), (∀ p ∈ A, Apt ops p.1 oi) → ∀ (F : World → Prop) (N : List Nat) (a : Act) (w : World), Known W S F N w → wpG P W S T (A ++ (oi, .flo) :: B) F N a → ∃ v, yieldsG P W S oi a v
  | [], _, _, _, _, _, _, ⟨v, h, _⟩ => ⟨v, h⟩
  | (oj, .flo) :: A, hA, F, N, a, w, hk, ⟨u, _, h⟩ => by
    obtain ⟨v, hv⟩ := ex_flo A (fun p hp => hA p (List.mem_cons_of_mem _ hp)) F N _ w hk h
    exact ⟨v, fun x hx => by have := hv x hx; rwa [(hA _ List.mem_cons_self).exec_i] at this⟩
  | (oj, .new X) :: A, hA, F, N, a, w, hk, ⟨_, h⟩ => by
    obtain ⟨v, hv⟩ := ex_flo A (fun p hp => hA p (List.mem_cons_of_mem _ hp)) _ _ _ (w.alloc X) (hk.new X) (h w.heap.size hk.gr.size hk.fresh)
    exact ⟨v, fun x hx => by have := hv x hx; rwa [(hA _ List.mem_cons_self).exec_i] at this⟩
  | (oj, .cha) :: A, hA, F, N, a, w, hk, h => by
    obtain ⟨u, w', hg, F', M, hs', hF', hl, h'⟩ := (h w hk.gr hk.fa).some
    obtain ⟨v, hv⟩ := ex_flo A (fun p hp => hA p (List.mem_cons_of_mem _ hp)) F' _ _ w' (hk.call hg hs' hF' hl) h'
    exact ⟨v, fun x hx => by have := hv x hx; rwa [(hA _ List.mem_cons_self).exec_i] at this⟩

theorem rem_flo {v : Value} {B : List (Oper × Kd)} : ∀ (A : List (Oper × Kd)), (∀ p ∈ A, Apt ops p.1 oi) → ∀ (F : World → Prop) (N : List Nat) (a : Act), yieldsG P W S oi a v → wpG P W S T (A ++ (oi, .flo) :: B) F N a → wpG P W S T (A ++ B) F N (a.put oi.dst v)
  | [], _, _, _, a, hv, ⟨v', h', hg⟩ => by
    have e : v = v' := by
      rcases hv W (GrS.refl _ _) with h1 | ⟨h1, e1⟩ <;> rcases h' W (GrS.refl _ _) with h2 | ⟨h2, e2⟩ <;> rw [h1] at h2
      · injection h2 with h3; injection h3
      · injection h2 with h3; cases h3
      · injection h2 with h3; cases h3
      · rw [e1, e2]
    subst e
    exact hg
  | (oj, .flo) :: A, hA, F, N, a, hv, ⟨u, hu, h⟩ => by
    have hj := hA _ List.mem_cons_self
    refine ⟨u, fun x hx => by rw [hj.exec_j]; exact hu x hx, ?_⟩
    rw [← hj.comm]
    exact rem_flo A (fun p hp => hA p (List.mem_cons_of_mem _ hp)) F N _ (fun x hx => by rw [hj.exec_i]; exact hv x hx) h
  | (oj, .new X) :: A, hA, F, N, a, hv, ⟨hm, h⟩ => by
    have hj := hA _ List.mem_cons_self
    refine ⟨fun x hx => by rw [hj.exec_j]; exact hm x hx, fun b hb hn => ?_⟩
    rw [← hj.comm]
    exact rem_flo A (fun p hp => hA p (List.mem_cons_of_mem _ hp)) _ _ _ (fun x hx => by rw [hj.exec_i]; exact hv x hx) (h b hb hn)
  | (oj, .cha) :: A, hA, F, N, a, hv, h => by
    have hj := hA _ List.mem_cons_self
    intro w hw hF
    refine ((h w hw hF).congr (hj.exec_j _ _)).mono fun u w' ⟨hg, F', M, hs', hF', hl, h'⟩ => ⟨hg, F', M, hs', hF', hl, ?_⟩
    rw [← hj.comm]
    exact rem_flo A (fun p hp => hA p (List.mem_cons_of_mem _ hp)) F' _ _ (fun x hx => by rw [hj.exec_i]; exact hv x hx) h'

theorem ex_new {X : Obj} {B : List (Oper × Kd)} : ∀ (A : List (Oper × Kd)), (∀ p ∈ A, Apt ops p.1 oi) → ∀ (F : World → Prop) (N : List Nat) (a : Act) (w : World), Known W S F N w → wpG P W S T (A ++ (oi, .new X) :: B) F N a → makesG P W S oi a X
  | [], _, _, _, _, _, _, ⟨h, _⟩ => h
  | (oj, .flo) :: A, hA, F, N, a, w, hk, ⟨u, _, h⟩ => by
    have hv := ex_new A (fun p hp => hA p (List.mem_cons_of_mem _ hp)) F N _ w hk h
    exact fun x hx => by have := hv x hx; rwa [(hA _ List.mem_cons_self).exec_i] at this
  | (oj, .new Y) :: A, hA, F, N, a, w, hk, ⟨_, h⟩ => by
    have hv := ex_new A (fun p hp => hA p (List.mem_cons_of_mem _ hp)) _ _ _ (w.alloc Y) (hk.new Y) (h w.heap.size hk.gr.size hk.fresh)
    exact fun x hx => by have := hv x hx; rwa [(hA _ List.mem_cons_self).exec_i] at this
  | (oj, .cha) :: A, hA, F, N, a, w, hk, h => by
    obtain ⟨u, w', hg, F', M, hs', hF', hl, h'⟩ := (h w hk.gr hk.fa).some
    have hv := ex_new A (fun p hp => hA p (List.mem_cons_of_mem _ hp)) F' _ _ w' (hk.call hg hs' hF' hl) h'
    exact fun x hx => by have := hv x hx; rwa [(hA _ List.mem_cons_self).exec_i] at this

theorem rem_new (hT : ∀ F N N' a, (∀ b, b ∈ N → b ∈ N') → T F N a → T F N' a) (hS : ∀ k ∈ S, k < W.heap.size) {X : Obj} {b : Nat} (hb : W.heap.size ≤ b) {B : List (Oper × Kd)} : ∀ (A : List (Oper × Kd)), (∀ p ∈ A, Apt ops p.1 oi) → ∀ (F : World → Prop) (N : List Nat) (a : Act), b ∉ N → wpG P W S T (A ++ (oi, .new X) :: B) F N a →
    wpG P W S T (A ++ B) (fun w => F w ∧ w.heap[b]? = some X) (b :: N) (a.put oi.dst (.pointer (some ⟨b, 0, none⟩)))
  | [], _, _, _, a, hn, ⟨_, h⟩ => h b hb hn
  | (oj, .flo) :: A, hA, F, N, a, hn, ⟨u, hu, h⟩ => by
    have hj := hA _ List.mem_cons_self
    refine ⟨u, fun x hx => by rw [hj.exec_j]; exact hu x hx, ?_⟩
    rw [← hj.comm]
    exact rem_new hT hS hb A (fun p hp => hA p (List.mem_cons_of_mem _ hp)) F N _ hn h
  | (oj, .new Y) :: A, hA, F, N, a, hn, ⟨hm, h⟩ => by
    have hj := hA _ List.mem_cons_self
    refine ⟨fun x hx => by rw [hj.exec_j]; exact hm x hx, fun b' hb' hn' => ?_⟩
    rw [← hj.comm, and_swap3]
    have hne : b' ≠ b := fun h => hn' (h ▸ List.mem_cons_self)
    refine wpG_sub hT _ _ (b :: b' :: N) (b' :: b :: N) _ (fun c hc => ?_) (rem_new hT hS hb A (fun p hp => hA p (List.mem_cons_of_mem _ hp)) _ (b' :: N) _ (fun h => ?_) (h b' hb' (fun h => hn' (List.mem_cons_of_mem _ h))))
    · simp only [List.mem_cons] at hc ⊢; rcases hc with h | h | h <;> simp [h]
    · rcases List.mem_cons.1 h with h' | h'
      · exact hne h'.symm
      · exact hn h'
  | (oj, .cha) :: A, hA, F, N, a, hn, h => by
    have hj := hA _ List.mem_cons_self
    intro w hw hF
    refine ((h w hw hF.1).congr (hj.exec_j _ _)).mono fun u w' ⟨hg, F', M, hs', hF', hl, h'⟩ =>
      ⟨hg.sub (fun _ h => List.mem_cons_of_mem _ h), fun x => F' x ∧ x.heap[b]? = some X, M, hs'.new b X, ⟨hF', hg.at (fun h => Nat.lt_irrefl _ (Nat.lt_of_lt_of_le (hS b h) hb)) hn hF.2⟩, hl, ?_⟩
    rw [← hj.comm]
    have hlt := Gr.blt hF.2
    refine wpG_sub hT _ _ (b :: (M ++ N)) (M ++ b :: N) _ (fun c hc => ?_) (rem_new hT hS hb A (fun p hp => hA p (List.mem_cons_of_mem _ hp)) F' (M ++ N) _ (fun h => ?_) h')
    · simp only [List.mem_cons, List.mem_append] at hc ⊢; rcases hc with h | h | h <;> simp [h]
    · rcases List.mem_append.1 h with h' | h'
      · have := hl b h'; omega
      · exact hn h'

theorem rem_cha {B : List (Oper × Kd)} : ∀ (A : List (Oper × Kd)), (∀ p ∈ A, Apt ops p.1 oi ∧ p.2.isFlo = true) → ∀ (F : World → Prop) (N : List Nat) (a : Act), wpG P W S T (A ++ (oi, .cha) :: B) F N a →
    ∀ w, GrS S W w → F w → steps P S oi a w (fun v w' => GrD S N w w' ∧ ∃ F' M, Stb F' ∧ F' w' ∧ (∀ b ∈ M, w.heap.size ≤ b ∧ b < w'.heap.size) ∧ wpG P W S T (A ++ B) F' (M ++ N) (a.put oi.dst v))
  | [], _, _, _, _, h, w, hw, hF => h w hw hF
  | (oj, .flo) :: A, hA, F, N, a, ⟨u, hu, h⟩, w, hw, hF => by
    have hj := (hA _ List.mem_cons_self).1
    refine ((rem_cha A (fun p hp => hA p (List.mem_cons_of_mem _ hp)) F N _ h w hw hF).congr (hj.exec_i a u).symm).mono fun v w' ⟨hg, F', M, hs', hF', hl, h'⟩ => ⟨hg, F', M, hs', hF', hl, u, fun x hx => by rw [hj.exec_j]; exact hu x hx, ?_⟩
    rw [← hj.comm]
    exact h'
  | (oj, .new X) :: A, hA, _, _, _, _, _, _, _ => by have := (hA _ List.mem_cons_self).2; cases this
  | (oj, .cha) :: A, hA, _, _, _, _, _, _, _ => by have := (hA _ List.mem_cons_self).2; cases this

/-- Does i wait for j? -/
def waits (ops : Array Oper) : Nat → Nat → Nat → Bool
  | 0, _, _ => false
  | f + 1, i, j => ((((ops[i]?).map (·.after)).getD #[]).any fun e => Region.binds .any e && e.on == j) || (((ops[i]?).map (·.after)).getD #[]).any fun e => Region.binds .any e && waits ops f e.on j
theorem waits_listed {listed : Array Bool} (hc : ∀ j oj, ops[j]? = some oj → listed.getD j false = true → ∀ e ∈ oj.after, Region.binds .any e = true → listed.getD e.on false = true) {j : Nat} :
    ∀ (f i : Nat) (oi : Oper), ops[i]? = some oi → (∀ e ∈ oi.after, Region.binds .any e = true → listed.getD e.on false = true) → waits ops f i j = true → listed.getD j false = true
  | 0, _, _, _, _, h => by cases h
  | f + 1, i, oi, hi, ha, h => by
    unfold waits at h
    rw [hi] at h
    rcases (Bool.or_eq_true _ _ ▸ h) with h | h
    · obtain ⟨e, he, hb⟩ := Array.any_eq_true'.1 h
      simp only [Bool.and_eq_true, beq_iff_eq] at hb
      rw [← hb.2]; exact ha e he hb.1
    · obtain ⟨e, he, hb⟩ := Array.any_eq_true'.1 h
      simp only [Bool.and_eq_true] at hb
      have hl := ha e he hb.1
      have h' := hb.2
      cases hq : ops[e.on]? with
      | none => cases f <;> simp [waits, hq] at h'
      | some oq => exact waits_listed hc f e.on oq hq (hc _ _ hq hl) h'

def canonL (n g : Nat) : Array Bool := Array.replicate n true ++ Array.replicate g false
/-- The tail waits for all that is ahead of it. -/
def tailB (ops : Array Oper) (n : Nat) : Bool := (List.range ops.size).all fun t => decide (t < n) || (List.range n).all fun i => waits ops (t + 1) t i
def mixB (ops : Array Oper) (n : Nat) (kd : Nat → Kd) : Bool :=
  Region.noSelect ops && decide (n < ops.size) && tailB ops n &&
  (List.range n).all fun i => match ops[i]? with
    | none => false
    | some oi => oi.guard.isNone && oi.after.all (fun e => !Region.binds .any e || decide (e.on < i)) &&
      (List.range i).all fun j => match ops[j]? with
        | none => false
        | some oj => (oj.apart ops oi || waits ops (i + 1) i j) && (!(kd i).isCha || (kd j).isFlo || waits ops (i + 1) i j)

end

section
variable {P : Program} {ops : Array Oper} {W : World} {S : List Nat} {Q : Exit → Act → World → Prop} {T : (World → Prop) → List Nat → Act → Prop}

theorem getD_tf {l : Array Bool} {i : Nat} (h : ¬ l.getD i true = false) (hi : i < l.size) : l.getD i false = true := by
  simp [hi] at h ⊢; exact h

theorem anyG (hS : ∀ k ∈ S, k < W.heap.size) {n g : Nat} {kd : Nat → Kd} (hB : mixB ops n kd = true) (hg : n + g = ops.size) (pr : Nat → Oper × Kd) (hpr : ∀ i o, ops[i]? = some o → pr i = (o, kd i))
    (hTN : ∀ F N N' a, (∀ b, b ∈ N → b ∈ N') → T F N a → T F N' a)
    (hT : ∀ F N a w, T F N a → GrS S W w → F w → wpAny P .any ops Q g (canonL n g) a w) :
    ∀ (m : Nat) (L : List Nat) (listed : Array Bool) (a : Act) (w : World) (F : World → Prop) (N : List Nat), L.length = m → HeadInv .any ops n listed → (∀ i, i ∈ L ↔ i < n ∧ listed.getD i true = false) → L.Pairwise (· < ·) →
      Known W S F N w → wpG P W S T (L.map pr) F N a → wpAny P .any ops Q (m + g) listed a w := by
  simp only [mixB, Bool.and_eq_true, decide_eq_true_eq] at hB
  obtain ⟨⟨⟨hsel, hn⟩, htail⟩, hall⟩ := hB
  have hget : ∀ i, i < n → ∃ oi, ops[i]? = some oi ∧ oi.guard = none ∧ (∀ e ∈ oi.after, Region.binds .any e = true → e.on < i) ∧
      ∀ j, j < i → ∀ oj, ops[j]? = some oj → (oj.apart ops oi || waits ops (i + 1) i j) = true ∧ (!(kd i).isCha || (kd j).isFlo || waits ops (i + 1) i j) = true := by
    intro i hi
    have h1 := List.all_eq_true.1 hall i (List.mem_range.2 hi)
    cases ho : ops[i]? with
    | none => simp [ho] at h1
    | some oi =>
      simp only [ho, Bool.and_eq_true] at h1
      obtain ⟨⟨h2, h3⟩, h4⟩ := h1
      refine ⟨oi, rfl, by simpa using h2, fun e he hb => ?_, fun j hj oj hoj => ?_⟩
      · have := Array.all_eq_true_iff_forall_mem.1 h3 e he
        simp only [hb, Bool.not_true, Bool.false_or, decide_eq_true_eq] at this
        exact this
      · have h5 := List.all_eq_true.1 h4 j (List.mem_range.2 hj)
        simp only [hoj, Bool.and_eq_true] at h5
        exact h5
  intro m
  induction m with
  | zero =>
    intro L listed a w F N hm inv hL _ hkn h
    have hnil : L = [] := List.length_eq_zero_iff.1 hm
    subst hnil
    rw [Nat.zero_add]
    have : listed = canonL n (ops.size - n) := by
      refine Array.ext (by rw [inv.size]; simp [canonL]; omega) fun i h1 h2 => ?_
      rw [inv.size] at h1
      by_cases hi : i < n
      · have h3 : ¬ listed.getD i true = false := fun h => by have := (hL i).2 ⟨hi, h⟩; cases this
        have h4 := getD_tf h3 (by rw [inv.size]; exact h1)
        simp [inv.size, h1] at h4
        simp [canonL, hi, h4]
      · have h4 := inv.tail i (by omega) h1
        simp [inv.size, h1] at h4
        simp [canonL, Array.getElem_append, h4]; omega
    rw [this, show ops.size - n = g by omega]
    exact hT F N a w h hkn.gr hkn.fa
  | succ m ih =>
    intro L listed a w F N hm inv hL hp hkn h
    have hready : ∃ i0, i0 ∈ Region.ready .any ops listed ∧ i0 ∈ L := by
      cases L with
      | nil => simp at hm
      | cons i0 L =>
        have h0 := (hL i0).1 List.mem_cons_self
        obtain ⟨oi, ho, _, ha, _⟩ := hget i0 h0.1
        refine ⟨i0, mem_ready.2 ⟨h0.2, oi, ho, fun e he hb => ?_⟩, List.mem_cons_self⟩
        have hlt := ha e he hb
        refine getD_tf (fun hf => ?_) (by rw [inv.size]; omega)
        have hmem := (hL e.on).2 ⟨by omega, hf⟩
        rcases List.mem_cons.1 hmem with h' | h'
        · omega
        · have := (List.pairwise_cons.1 hp).1 _ h'; omega
    obtain ⟨i0, hr0, hm0⟩ := hready
    rw [show m + 1 + g = (m + g) + 1 by omega]
    refine ⟨fun h => (by rw [h] at hr0; cases hr0), fun i hi => ?_⟩
    have hin : i < n := by
      rcases Nat.lt_or_ge i n with h' | h'
      · exact h'
      · obtain ⟨_, ot, hot, hdt⟩ := mem_ready.1 hi
        have h1 := List.all_eq_true.1 htail i (List.mem_range.2 (Array.getElem?_eq_some_iff.1 hot).1)
        simp only [Bool.or_eq_true, decide_eq_true_eq] at h1
        have h2 := List.all_eq_true.1 (h1.resolve_left (by omega)) i0 (List.mem_range.2 ((hL i0).1 hm0).1)
        have h3 := waits_listed inv.closed (i + 1) i ot hot hdt h2
        rw [getD_both ((hL i0).1 hm0).2] at h3
        cases h3
    obtain ⟨hiun, oi', hoi', hdone⟩ := mem_ready.1 hi
    obtain ⟨oi, hoi, hgu, _, hrel⟩ := hget i hin
    obtain rfl : oi' = oi := Option.some.inj (hoi'.symm.trans hoi)
    have hiL : i ∈ L := (hL i).2 ⟨hin, hiun⟩
    obtain ⟨A, B, rfl⟩ := List.append_of_mem hiL
    have hpair := List.pairwise_append.1 hp
    have hAp : ∀ p ∈ A.map pr, Apt ops p.1 oi' ∧ ((kd i).isCha = true → p.2.isFlo = true) := by
      intro p hpm
      obtain ⟨j, hj, rfl⟩ := List.mem_map.1 hpm
      have hji : j < i := hpair.2.2 j hj i List.mem_cons_self
      have hjL := (hL j).1 (List.mem_append_left _ hj)
      obtain ⟨oj, hoj, _⟩ := hget j hjL.1
      have hno : waits ops (i + 1) i j = false := by
        cases hq : waits ops (i + 1) i j with
        | false => rfl
        | true =>
          have := waits_listed inv.closed (i + 1) i oi' hoi hdone hq
          rw [getD_both hjL.2] at this
          cases this
      have h5 := hrel j hji oj hoj
      rw [hno, Bool.or_false, Bool.or_false] at h5
      rw [hpr j oj hoj]
      refine ⟨⟨h5.1, fun cs b => Region.noSelect_spec hsel j oj cs b hoj, fun cs b => Region.noSelect_spec hsel i oi' cs b hoi⟩, fun hc => ?_⟩
      have := h5.2
      rw [hc] at this
      simpa using this
    have hL' : ∀ k, k ∈ A ++ B ↔ k < n ∧ (listed.setIfInBounds i true).getD k true = false := by
      intro k
      by_cases hki : k = i
      · subst hki
        have hlt : k < listed.size := by rw [inv.size]; omega
        have hnA : k ∉ A := fun hk => by have := hpair.2.2 k hk k List.mem_cons_self; omega
        have hnB : k ∉ B := fun hk => by have := (List.pairwise_cons.1 hpair.2.1).1 k hk; omega
        simp [hnA, hnB, hlt]
      · rw [getD_set_ne true (Ne.symm hki), ← hL k]
        simp [hki]
    have hp' : (A ++ B).Pairwise (· < ·) := List.pairwise_append.2 ⟨hpair.1, (List.pairwise_cons.1 hpair.2.1).2, fun x hx y hy => hpair.2.2 x hx y (List.mem_cons_of_mem _ hy)⟩
    have hm' : (A ++ B).length = m := by simp only [List.length_append, List.length_cons] at hm ⊢; omega
    have inv' := inv.set hi hin
    have go : ∀ (a' : Act) (w' : World) (F' : World → Prop) (N' : List Nat), Known W S F' N' w' → wpG P W S T (A.map pr ++ B.map pr) F' N' a' → wpAny P .any ops Q (m + g) (listed.setIfInBounds i true) a' w' :=
      fun a' w' F' N' h1 h4 => ih (A ++ B) _ a' w' F' N' hm' inv' hL' hp' h1 (by rw [List.map_append]; exact h4)
    rw [List.map_append, List.map_cons, hpr i oi' hoi] at h
    unfold wpOp
    simp only [hoi]
    rw [if_pos (by simp [Region.wanted, hgu])]
    refine .inl ?_
    cases hk : kd i with
    | flo =>
      rw [hk] at h
      obtain ⟨v, hv⟩ := ex_flo (A.map pr) (fun p hp => (hAp p hp).1) F N a w hkn h
      have h2 := rem_flo (A.map pr) (fun p hp => (hAp p hp).1) F N a hv h
      unfold Oper.wp
      rcases hv w hkn.gr with he | ⟨he, rfl⟩
      · rw [he]; exact go _ w F N hkn h2
      · rw [he]; exact go _ w F N hkn h2
    | new X =>
      rw [hk] at h
      have hv := ex_new (A.map pr) (fun p hp => (hAp p hp).1) F N a w hkn h
      have h2 := rem_new hTN hS hkn.gr.size (A.map pr) (fun p hp => (hAp p hp).1) F N a hkn.fresh h
      unfold Oper.wp
      rw [hv w hkn.gr]
      exact go _ (w.alloc X) _ _ (hkn.new X) h2
    | cha =>
      rw [hk] at h hAp
      exact (rem_cha (A.map pr) (fun p hp => ⟨(hAp p hp).1, (hAp p hp).2 rfl⟩) F N a h w hkn.gr hkn.fa).wp fun v w' ⟨hgr, F', M, hs', hF', hl, h'⟩ => go _ w' F' _ (hkn.call hgr hs' hF' hl) h'

theorem region_of_tail {id : Nat} {a : Act} {w : World} {F0 : World → Prop} (hF0s : Stb F0) (hF0 : F0 w.drew) (hS : ∀ k ∈ S, k < w.heap.size) {l : List Oper} {T : (World → Prop) → Act → Prop} (n : Nat) (ks : List Kd) (hm : P.follows .mixedOrders = true) (hB : mixB l.toArray n (fun i => ks.getD i .flo) = true) (hk : ks.length = n)
    (hT : ∀ F a w', T F a → GrS S w.drew w' → F w' → wpAny P .any l.toArray Q (l.length - n) (canonL n (l.length - n)) a w')
    (h : wpG P w.drew S (fun F _ a' => T F a') ((l.take n).zip ks) F0 [] a) : (Code.region id l.toArray true).wp P Q a w := by
  have hn : n < l.length := by
    simp only [mixB, Bool.and_eq_true, decide_eq_true_eq] at hB
    simpa using hB.1.1.2
  refine wp_region_any hm ?_
  have inv0 : HeadInv .any l.toArray n (Array.replicate l.toArray.size false) :=
    ⟨by simp, fun j oj _ hl => (by rw [getD_replicate_false] at hl; cases hl), fun t _ ht => getD_in (by simpa using ht) (getD_replicate_false _ _)⟩
  have hzip : (l.take n).zip ks = (List.range n).map (fun i => (l.getD i default, ks.getD i .flo)) := by
    refine List.ext_getElem (by simp [hk]; omega) fun i h1 h2 => ?_
    have hi : i < n := by simpa using h2
    simp [List.getD, List.getElem?_eq_getElem (show i < l.length by omega), List.getElem?_eq_getElem (show i < ks.length by omega)]
  rw [hzip] at h
  have := anyG (P := P) (Q := Q) (W := w.drew) (S := S) hS (g := l.length - n) hB (by simp; omega) (fun i => (l.getD i default, ks.getD i .flo))
    (fun i o ho => by simp only [List.getElem?_toArray] at ho; simp [List.getD, ho])
    (fun F N N' a' _ h => h)
    (fun F N a' w' hT' hw hF => hT F a' w' hT' hw hF)
    n (List.range n) (Array.replicate l.toArray.size false) a w.drew F0 [] (by simp) inv0
    (fun i => by
      rw [List.mem_range]
      exact ⟨fun hi => ⟨hi, getD_in (by simp; omega) (getD_replicate_false _ _)⟩, fun h => h.1⟩)
    List.pairwise_lt_range ⟨hF0s, GrS.refl _ _, hF0, (fun b hb => by cases hb), fun b hb => by cases hb⟩ h
  rw [show n + (l.length - n) = l.toArray.size by simp; omega] at this
  exact this
/-- **ONE WALK IN THE ORDER OF THE TEXT**: n operations, each of its kind; then the tail, which keeps its order. -/
theorem wp_region_mix {id : Nat} {a : Act} {w : World} {l : List Oper} (n : Nat) (ks : List Kd) (hm : P.follows .mixedOrders = true) (hB : (mixB l.toArray n (fun i => ks.getD i .flo) && Region.seqB .any l.toArray (l.length - n) n (canonL n (l.length - n))) = true) (hk : ks.length = n)
    (h : wpG P w.drew [] (fun F _ a' => ∀ w', Gr w.drew w' → F w' → wpList P l.toArray Q (l.drop n) a' w') ((l.take n).zip ks) (fun _ => True) [] a) : (Code.region id l.toArray true).wp P Q a w := by
  rw [Bool.and_eq_true] at hB
  refine region_of_tail (S := []) (F0 := fun _ => True) Stb.tt trivial (fun _ h => by cases h) (T := fun F a' => ∀ w', Gr w.drew w' → F w' → wpList P l.toArray Q (l.drop n) a' w') n ks hm hB.1 hk (fun F a' w' hT hw hF => ?_) h
  have hdl : (l.drop n).length = l.length - n := by simp
  have := wpAny_of_seq (md := .any) (Q' := Q) (l.drop n) n (canonL n (l.length - n)) a' w' (fun j => by simp [List.getElem?_drop]) (by rw [hdl]; exact hB.2) (hT w' hw.toGr hF)
  rwa [hdl] at this
/-- .. where a store into a block of S may stand among the operations. -/
theorem wp_region_mixS {id : Nat} {a : Act} {w : World} {l : List Oper} (S : List Nat) (F0 : World → Prop) (hF0s : Stb F0) (hF0 : F0 w.drew) (hS : ∀ k ∈ S, k < w.heap.size) (n : Nat) (ks : List Kd) (hm : P.follows .mixedOrders = true) (hB : (mixB l.toArray n (fun i => ks.getD i .flo) && Region.seqB .any l.toArray (l.length - n) n (canonL n (l.length - n))) = true) (hk : ks.length = n)
    (h : wpG P w.drew S (fun F _ a' => ∀ w', GrS S w.drew w' → F w' → wpList P l.toArray Q (l.drop n) a' w') ((l.take n).zip ks) F0 [] a) : (Code.region id l.toArray true).wp P Q a w := by
  rw [Bool.and_eq_true] at hB
  refine region_of_tail (S := S) (F0 := F0) hF0s hF0 hS (T := fun F a' => ∀ w', GrS S w.drew w' → F w' → wpList P l.toArray Q (l.drop n) a' w') n ks hm hB.1 hk (fun F a' w' hT hw hF => ?_) h
  have hdl : (l.drop n).length = l.length - n := by simp
  have := wpAny_of_seq (md := .any) (Q' := Q) (l.drop n) n (canonL n (l.length - n)) a' w' (fun j => by simp [List.getElem?_drop]) (by rw [hdl]; exact hB.2) (hT w' hw hF)
  rwa [hdl] at this
theorem wpList_op {i : Nat} {o : Oper} {rest : List Oper} {K : Act → World → Prop} {a : Act} {w : World} (hi : ops[i]? = some o) (hK : ∀ a w, wpList P ops Q rest a w → K a w) (h : wpList P ops Q (o :: rest) a w) : wpOp P ops Q i K a w := by
  have : wpOp P ops Q i (wpList P ops Q rest) a w := by unfold wpOp; simp only [hi]; exact h
  exact wpOp_mono hK this
/-- .. of two operations in either order. -/
def pairB (ops : Array Oper) (n : Nat) : Bool :=
  decide (Region.ready .any ops (canonL n 2) = [n, n + 1]) && decide (Region.ready .any ops ((canonL n 2).setIfInBounds n true) = [n + 1]) && decide (Region.ready .any ops ((canonL n 2).setIfInBounds (n + 1) true) = [n]) &&
  decide (Region.ready .any ops (((canonL n 2).setIfInBounds n true).setIfInBounds (n + 1) true) = []) && decide (Region.ready .any ops (((canonL n 2).setIfInBounds (n + 1) true).setIfInBounds n true) = [])
theorem wp_region_mix2 {id : Nat} {a : Act} {w : World} {l : List Oper} (n : Nat) (o1 o2 : Oper) (ks : List Kd) (hm : P.follows .mixedOrders = true) (hB : (mixB l.toArray n (fun i => ks.getD i .flo) && pairB l.toArray n) = true) (hd : l.drop n = [o1, o2]) (hk : ks.length = n)
    (h : wpG P w.drew [] (fun F _ a' => ∀ w', Gr w.drew w' → F w' → wpList P l.toArray Q [o1, o2] a' w' ∧ wpList P l.toArray Q [o2, o1] a' w') ((l.take n).zip ks) (fun _ => True) [] a) : (Code.region id l.toArray true).wp P Q a w := by
  rw [Bool.and_eq_true] at hB
  have hlen : l.length - n = 2 := by have := congrArg List.length hd; simpa using this
  have h1 : l.toArray[n]? = some o1 := by
    have := congrArg (·[0]?) hd
    simpa [List.getElem?_drop] using this
  have h2 : l.toArray[n + 1]? = some o2 := by
    have := congrArg (·[1]?) hd
    simpa [List.getElem?_drop] using this
  refine region_of_tail (S := []) (F0 := fun _ => True) Stb.tt trivial (fun _ h => by cases h) (T := fun F a' => ∀ w', Gr w.drew w' → F w' → wpList P l.toArray Q [o1, o2] a' w' ∧ wpList P l.toArray Q [o2, o1] a' w') n ks hm hB.1 hk (fun F a' w' hT hw hF => ?_) h
  rw [hlen]
  have hp := hB.2
  simp only [pairB, Bool.and_eq_true, decide_eq_true_eq] at hp
  obtain ⟨⟨⟨⟨p0, p1⟩, p2⟩, p3⟩, p4⟩ := hp
  obtain ⟨t1, t2⟩ := hT w' hw.toGr hF
  refine ⟨fun h => (by rw [p0] at h; cases h), fun i hi => ?_⟩
  rw [p0] at hi
  simp only [List.mem_cons, List.not_mem_nil, or_false] at hi
  rcases hi with rfl | rfl
  · refine wpList_op h1 (fun a w hq => ?_) t1
    refine ⟨fun h => (by rw [p1] at h; cases h), fun i' hi' => ?_⟩
    rw [p1] at hi'
    obtain rfl : i' = i + 1 := by simpa using hi'
    exact wpList_op (rest := []) h2 (fun a w h => ⟨p3, h⟩) hq
  · refine wpList_op h2 (fun a w hq => ?_) t2
    refine ⟨fun h => (by rw [p2] at h; cases h), fun i' hi' => ?_⟩
    rw [p2] at hi'
    obtain rfl : i' = n := by simpa using hi'
    exact wpList_op (rest := []) h1 (fun a w h => ⟨p4, h⟩) hq
end

section
variable {P : Program} {W : World} {Q : Exit → Act → World → Prop} {T : (World → Prop) → List Nat → Act → Prop}
theorem listG {ops : Array Oper} {rest : List Oper} (hT : ∀ F N a w, T F N a → Gr W w → F w → wpList P ops Q rest a w) : ∀ (L : List (Oper × Kd)), (∀ p ∈ L, p.1.guard = none) → ∀ (F : World → Prop) (N : List Nat) (a : Act) (w : World),
    Known W [] F N w → wpG P W [] T L F N a → wpList P ops Q (L.map (·.1) ++ rest) a w
  | [], _, F, N, a, w, hk, h => hT F N a w h hk.gr.toGr hk.fa
  | (o, .flo) :: L, hg, F, N, a, w, hk, ⟨v, hv, h⟩ => wpList_plain (hg _ List.mem_cons_self) fun K hK => by
      unfold Oper.wp
      rcases hv w hk.gr with he | ⟨he, rfl⟩
      · rw [he]; exact hK _ _ (listG hT L (fun p hp => hg p (List.mem_cons_of_mem _ hp)) F N _ w hk h)
      · rw [he]; exact hK _ _ (listG hT L (fun p hp => hg p (List.mem_cons_of_mem _ hp)) F N _ w hk h)
  | (o, .new X) :: L, hg, F, N, a, w, hk, ⟨hm, h⟩ => wpList_plain (hg _ List.mem_cons_self) fun K hK => by
      unfold Oper.wp; rw [hm w hk.gr]; exact hK _ _ (listG hT L (fun p hp => hg p (List.mem_cons_of_mem _ hp)) _ _ _ _ (hk.new X) (h _ hk.gr.size hk.fresh))
  | (o, .cha) :: L, hg, F, N, a, w, hk, h => wpList_plain (hg _ List.mem_cons_self) fun K hK => by
      exact (h w hk.gr hk.fa).wp fun v w' ⟨hgr, F', M, hs', hF', hl, h'⟩ => hK _ _ (listG hT L (fun p hp => hg p (List.mem_cons_of_mem _ hp)) F' _ _ w' (hk.call hgr hs' hF' hl) h')
/-- The same of a region that keeps the order of the text. -/
theorem wp_region_seq {id : Nat} {a : Act} {w : World} {l : List Oper} (n : Nat) (ks : List Kd) (hB : (l.take n).all (·.guard.isNone) = true) (hk : ks.length = n) (hn : n ≤ l.length)
    (h : wpG P w [] (fun F _ a' => ∀ w', Gr w w' → F w' → wpList P l.toArray Q (l.drop n) a' w') ((l.take n).zip ks) (fun _ => True) [] a) : (Code.region id l.toArray false).wp P Q a w := by
  refine wp_region_lit ?_
  have e : ((l.take n).zip ks).map (·.1) ++ l.drop n = l := by
    rw [List.map_fst_zip (by simp; omega), List.take_append_drop]
  have := listG (P := P) (W := w) (Q := Q) (ops := l.toArray) (rest := l.drop n) (fun F N a w' hT hw hF => hT w' hw hF) ((l.take n).zip ks) (fun p hp => by
    have h1 := List.all_eq_true.1 hB p.1 (List.of_mem_zip hp).1
    simpa using h1) (fun _ => True) [] a w ⟨fun _ _ _ _ => trivial, GrS.refl _ _, trivial, (fun b hb => by cases hb), fun b hb => by cases hb⟩ h
  rwa [e] at this
end

section
variable {P : Program} {W : World} {S : List Nat} {T : (World → Prop) → List Nat → Act → Prop} {L : List (Oper × Kd)} {F : World → Prop} {N : List Nat} {a : Act} {o : Oper}
theorem gm_nil (h : T F N a) : wpG P W S T [] F N a := h
/-- A whole struct or array out of a block that stood. -/
theorem gm_loadS {t : TypeId} (x : Operand) (ho : o.op = .load t x) (b : Nat) (cs : Array Value) (t' : TypeId) (fr : Nat × Nat) (d : TypeDesc) (hb : W.heap[b]? = some (.cells cs t' fr)) (hbS : b ∉ S) (hx : a.eval x = .pointer (some ⟨b, 0, none⟩))
    (hu : P.underlying t = some d) (hd : (match d with | .struct _ | .array _ _ => true | _ => false) = true) (hi : (P.info? t).map (·.size) = some cs.size)
    (h : wpG P W S T L F N (a.put o.dst (.agg cs))) : wpG P W S T ((o, .flo) :: L) F N a :=
  ⟨_, fun w hw => .inl <| by
    unfold execOp
    simp only [ho, hx, Instr.loadAt, Instr.sureAddr, Sem.run_bind, Sem.run_pure, Result.andThen_ok, run_loadVar_row w b t' t cs fr d (hw.at hbS hb) hu hd hi], h⟩
theorem gm_load {t : TypeId} (x : Operand) (ho : o.op = .load t x) (b : Nat) (cs : Array Value) (t' : TypeId) (fr : Nat × Nat) (d : TypeDesc) (hb : W.heap[b]? = some (.cells cs t' fr)) (hx : a.eval x = .pointer (some ⟨b, 0, none⟩))
    (hu : P.underlying t = some d) (hd : (match d with | .struct _ | .array _ _ => true | _ => false) = true) (hi : (P.info? t).map (·.size) = some cs.size)
    (h : wpG P W [] T L F N (a.put o.dst (.agg cs))) : wpG P W [] T ((o, .flo) :: L) F N a :=
  gm_loadS x ho b cs t' fr d hb (fun h => by cases h) hx hu hd hi h
def goesB (P : Program) (f : FuncId) : Bool := match P.funcs[f]? with | some fn => !(fn.name == "runtime.NumGoroutine") && fn.body.isSome | none => false
theorem exec_call {f : FuncId} {l : List Operand} {ts : Array TypeId} {vl : List Value} (hb : goesB P f = true) (ho : o.op = .call { callee := .value (.func f), args := l.toArray, argTypes := ts }) (hv : l.map a.eval = vl) (w : World) :
    (execOp a.eval o).run P w = .ok (.enter f vl.toArray) w := by
  obtain ⟨dst, op, ty, pos, after, guard⟩ := o
  subst ho
  rw [execOp_call_go]
  subst hv
  unfold goesB at hb
  cases hf : P.funcs[f]? with
  | none => simp [hf] at hb
  | some fn =>
    simp only [hf, Bool.and_eq_true, Bool.not_eq_true', beq_eq_false_iff_ne] at hb
    have h2 : fn.body ≠ none := fun h => by simp [h] at hb
    simp [callFunc, hf, hb.1, h2]
/-- A call of a function of the program. -/
theorem gm_call {f : FuncId} {l : List Operand} {ts : Array TypeId} (vl : List Value) (hb : goesB P f = true) (ho : o.op = .call { callee := .value (.func f), args := l.toArray, argTypes := ts }) (hv : l.map a.eval = vl) (hF : Stb F)
    (h : ∀ w, GrS S W w → F w → Calls P f vl.toArray w (fun e w' => ∃ v, e = .returned v ∧ Gr w w' ∧ wpG P W S T L F N (a.put o.dst v))) : wpG P W S T ((o, .cha) :: L) F N a :=
  fun w hw hFw => .inl ⟨f, vl.toArray, exec_call hb ho hv w, (h w hw hFw).mono fun _ w' ⟨v, hv, hg, hr⟩ => ⟨v, hv, (hg.toS S).d, F, [], hF, hF _ _ hg hFw, fun _ hb => (by cases hb), hr⟩⟩
/-- One that leaves facts on the world, and new blocks. -/
theorem gm_callF {f : FuncId} {l : List Operand} {ts : Array TypeId} (vl : List Value) (hb : goesB P f = true) (ho : o.op = .call { callee := .value (.func f), args := l.toArray, argTypes := ts }) (hv : l.map a.eval = vl)
    (h : ∀ w, GrS S W w → F w → Calls P f vl.toArray w (fun e w' => ∃ v, e = .returned v ∧ Gr w w' ∧ ∃ F' N', Stb F' ∧ F' w' ∧ (∀ b ∈ N', w.heap.size ≤ b ∧ b < w'.heap.size) ∧ wpG P W S T L F' (N' ++ N) (a.put o.dst v))) : wpG P W S T ((o, .cha) :: L) F N a :=
  fun w hw hFw => .inl ⟨f, vl.toArray, exec_call hb ho hv w, (h w hw hFw).mono fun _ w' ⟨v, hv, hg, hr⟩ => ⟨v, hv, (hg.toS S).d, hr⟩⟩
theorem gm_flo (v : Value) (h : ∀ w, GrS S W w → (execOp a.eval o).run P w = .ok (.value v) w) (hr : wpG P W S T L F N (a.put o.dst v)) : wpG P W S T ((o, .flo) :: L) F N a := ⟨v, fun w hw => .inl (h w hw), hr⟩
theorem gm_move (x : Operand) (ho : o.op = .move x ∨ o.op = .assign x) (v : Value) (hx : a.eval x = v) (h : wpG P W S T L F N (a.put o.dst v)) : wpG P W S T ((o, .flo) :: L) F N a :=
  ⟨v, fun w _ => .inl <| by subst hx; unfold execOp; rcases ho with ho | ho <;> simp only [ho] <;> rfl, h⟩
theorem gm_alloc {t : TypeId} (ho : o.op = .alloc t) (X : Obj) (hm : ∀ w, (Instr.alloc t true (.tuple #[])).run P w = .ok (.pointer (some ⟨w.heap.size, 0, none⟩)) (w.alloc X))
    (h : ∀ b, W.heap.size ≤ b → b ∉ N → wpG P W S T L (fun w => F w ∧ w.heap[b]? = some X) (b :: N) (a.put o.dst (.pointer (some ⟨b, 0, none⟩)))) : wpG P W S T ((o, .new X) :: L) F N a :=
  ⟨fun w _ => by unfold execOp; simp only [ho, Sem.run_bind, hm, Result.andThen_ok, Sem.run_pure], h⟩
theorem gm_box {t : TypeId} (x : Operand) (ho : o.op = .box t x) (X : Obj) (v : Value) (hx : a.eval x = v) (hm : ∀ w, (Instr.box t v).run P w = .ok (.pointer (some ⟨w.heap.size, 0, none⟩)) (w.alloc X))
    (h : ∀ b, W.heap.size ≤ b → b ∉ N → wpG P W S T L (fun w => F w ∧ w.heap[b]? = some X) (b :: N) (a.put o.dst (.pointer (some ⟨b, 0, none⟩)))) : wpG P W S T ((o, .new X) :: L) F N a :=
  ⟨fun w _ => by subst hx; unfold execOp; simp only [ho, Sem.run_bind, hm, Result.andThen_ok, Sem.run_pure], h⟩
theorem gm_extract {vs : Array Value} (x : Operand) (i : Nat) (ho : o.op = .extract x i) (hx : a.eval x = .tuple vs) (v : Value) (hv : vs[i]? = some v) (h : wpG P W S T L F N (a.put o.dst v)) : wpG P W S T ((o, .flo) :: L) F N a :=
  ⟨v, fun w _ => .inl <| by unfold execOp; simp only [ho, hx]; simp [Instr.extract, hv], h⟩
theorem setRow_same {w : World} {b : Nat} {cs : Array Value} {t : TypeId} {fr : Nat × Nat} (h : w.heap[b]? = some (.cells cs t fr)) : w.setRow b cs = w := by
  obtain ⟨heap, tape, drawn, os, output⟩ := w
  have hh : ((⟨heap, tape, drawn, os, output⟩ : World).setRow b cs).heap = heap := by
    refine Array.ext_getElem? fun k => ?_
    by_cases hk : k = b
    · subst hk; exact (setRow_heap _ _ _ _ _ _ h).trans h.symm
    · exact setRow_other _ _ _ _ hk
  unfold World.setRow at hh ⊢
  simpa using hh
/-- A store of what stands there. -/
theorem gm_store_same {t : TypeId} (x y : Operand) (ho : o.op = .store t x y) (b : Nat) (cs : Array Value) (t' : TypeId) (hx : a.eval x = .pointer (some ⟨b, 0, none⟩)) (hy : a.eval y = .agg cs) (hbS : b ∉ S) (hd : o.dst = none)
    (hi : (P.info? t).map (·.size) = some cs.size) (h1 : cs.all (·.oneCell') = true) (hb : W.heap[b]? = some (.cells cs t' (0, 0))) (h : wpG P W S T L F N a) : wpG P W S T ((o, .flo) :: L) F N a :=
  ⟨undef, fun w hw => .inr ⟨by
    unfold execOp
    simp only [ho, hx, hy, Instr.storeAt, Instr.sureAddr, Sem.run_bind, Sem.run_pure, Result.andThen_ok, run_storeVar_row w b t' t cs cs (hw.at hbS hb) hi rfl h1, setRow_same (hw.at hbS hb)], rfl⟩, by rw [hd]; exact h⟩
/-- A store of a whole row into a block of S. -/
theorem gm_store {t : TypeId} (x y : Operand) (ho : o.op = .store t x y) (b : Nat) (old cs : Array Value) (t' : TypeId) (hx : a.eval x = .pointer (some ⟨b, 0, none⟩)) (hy : a.eval y = .agg cs) (hbS : b ∈ S) (hd : o.dst = none)
    (hi : (P.info? t).map (·.size) = some cs.size) (hold : old.size = cs.size) (h1 : cs.all (·.oneCell') = true) (G : World → Prop) (hFG : ∀ w, F w → G w ∧ w.heap[b]? = some (.cells old t' (0, 0))) (hG : Stb G) (hGs : ∀ w, G w → G (w.setRow b cs))
    (h : wpG P W S T L (fun w => G w ∧ w.heap[b]? = some (.cells cs t' (0, 0))) N a) : wpG P W S T ((o, .cha) :: L) F N a :=
  fun w hw hFw => .inr (.inl ⟨w.setRow b cs, by
    unfold execOp
    simp only [ho, hx, hy, Instr.storeAt, Instr.sureAddr, Sem.run_bind, Sem.run_pure, Result.andThen_ok, run_storeVar_row w b t' t old cs (hFG w hFw).2 hi hold h1], ((GrS.refl S w).setRow (.inr hbS) cs).d, _, [], hG.new b _, ⟨hGs w (hFG w hFw).1, setRow_heap _ _ _ _ _ _ (hFG w hFw).2⟩, fun _ hb => (by cases hb), by rw [hd]; exact h⟩)
/-- A store of a whole row into a block that is new. -/
theorem gm_storeN {t : TypeId} (x y : Operand) (ho : o.op = .store t x y) (b : Nat) (old cs : Array Value) (t' : TypeId) (hx : a.eval x = .pointer (some ⟨b, 0, none⟩)) (hy : a.eval y = .agg cs) (hbN : b ∈ N) (hd : o.dst = none)
    (hi : (P.info? t).map (·.size) = some cs.size) (hold : old.size = cs.size) (h1 : cs.all (·.oneCell') = true) (G : World → Prop) (hFG : ∀ w, F w → G w ∧ w.heap[b]? = some (.cells old t' (0, 0))) (hG : Stb G) (hGs : ∀ w, G w → G (w.setRow b cs))
    (h : wpG P W S T L (fun w => G w ∧ w.heap[b]? = some (.cells cs t' (0, 0))) N a) : wpG P W S T ((o, .cha) :: L) F N a :=
  fun w hw hFw => .inr (.inl ⟨w.setRow b cs, by
    unfold execOp
    simp only [ho, hx, hy, Instr.storeAt, Instr.sureAddr, Sem.run_bind, Sem.run_pure, Result.andThen_ok, run_storeVar_row w b t' t old cs (hFG w hFw).2 hi hold h1], ⟨[b], (fun d hd => by simp at hd; subst hd; exact hbN), (GrS.refl _ w).setRow (.inr (by simp)) cs⟩, _, [], hG.new b _, ⟨hGs w (hFG w hFw).1, setRow_heap _ _ _ _ _ _ (hFG w hFw).2⟩, fun _ hb => (by cases hb), by rw [hd]; exact h⟩)
/-- An operation that yields a value in the world as it has become, and leaves facts and new blocks. -/
theorem gm_val (h : ∀ w, GrS S W w → F w → ∃ v w', (execOp a.eval o).run P w = .ok (.value v) w' ∧ Gr w w' ∧ ∃ F' N', Stb F' ∧ F' w' ∧ (∀ b ∈ N', w.heap.size ≤ b ∧ b < w'.heap.size) ∧ wpG P W S T L F' (N' ++ N) (a.put o.dst v)) : wpG P W S T ((o, .cha) :: L) F N a :=
  fun w hw hFw => by
    obtain ⟨v, w', he, hg, hr⟩ := h w hw hFw
    exact .inr (.inr ⟨v, w', he, (hg.toS S).d, hr⟩)
end
end Go.Proofs.YtgcbmjflodgnbaaGreatDoor
namespace Go.Proofs.YtgcbmjflodgnbaaGreatDoor
set_option maxRecDepth 100000
set_option linter.unusedVariables false
open Go Go.RowKit

theorem GrS.of_upd {S K : List Nat} {w w' : World} (u : Upd K w w') (hs : ∀ k, k ∈ K → k ∈ S) : GrS S w w' :=
  ⟨u.os, u.tape, u.output, u.size, fun i hi hn => u.block i hi (fun h => hn (hs i h))⟩
theorem GrS.upd {S : List Nat} {w w' : World} (u : GrS S w w') : Upd S w w' := ⟨u.os, u.tape, u.output, u.size, u.block⟩
theorem Gr.upd {w w' : World} (u : Gr w w') : Upd [] w w' := Upd.of_below u
section
variable {P : Program} {W : World} {S : List Nat} {T : (World → Prop) → List Nat → Act → Prop} {L : List (Oper × Kd)} {F : World → Prop} {N : List Nat} {a : Act} {o : Oper}
/-- A call that changes blocks of S, and leaves facts. -/
theorem gm_callS {f : FuncId} {l : List Operand} {ts : Array TypeId} (vl : List Value) (hb : goesB P f = true) (ho : o.op = .call { callee := .value (.func f), args := l.toArray, argTypes := ts }) (hv : l.map a.eval = vl)
    (h : ∀ w, GrS S W w → F w → Calls P f vl.toArray w (fun e w' => ∃ v, e = .returned v ∧ GrS S w w' ∧ ∃ F', Stb F' ∧ F' w' ∧ wpG P W S T L F' N (a.put o.dst v))) : wpG P W S T ((o, .cha) :: L) F N a :=
  fun w hw hFw => .inl ⟨f, vl.toArray, exec_call hb ho hv w, (h w hw hFw).mono fun _ w' ⟨v, hv, hg, F', hs, hF, hr⟩ => ⟨v, hv, hg.d, F', [], hs, hF, fun _ hb => (by cases hb), hr⟩⟩
end
end Go.Proofs.YtgcbmjflodgnbaaGreatDoor
namespace Go.Proofs.YtgcbmjflodgnbaaGreatDoor
set_option maxRecDepth 100000
set_option linter.unusedVariables false
open Go Go.RowKit

/-- A record as a value, as cells. -/
def brC (r : BR) : Array Value := #[.int .i64 r.slot, .bool r.up, .int .i64 r.count, .int .i64 r.s0, .int .i64 r.s1]
def brV (r : BR) : Value := .agg (brC r)
/-- A store lies at g: over the part at q. -/
structure Bt (w : World) (g q : Nat) (t : BS) : Prop where
  row : w.heap[g]? = some (.cells #[.pointer (some ⟨q, 0, none⟩), .int .i64 t.r.slot, .bool t.r.up, .int .i64 t.r.count, .int .i64 t.r.s0, .int .i64 t.r.s1, .int .i64 (t.seq : Int), .int .i64 (t.block : Int), .bool t.dead] 79 (0, 0))
theorem Bt.cells {w : World} {g q : Nat} {t : BS} (h : Bt w g q t) : w.cell? ⟨g, 0, none⟩ = some (.pointer (some ⟨q, 0, none⟩)) ∧ w.cell? ⟨g, 1, none⟩ = some (.int .i64 t.r.slot) ∧ w.cell? ⟨g, 2, none⟩ = some (.bool t.r.up) ∧ w.cell? ⟨g, 3, none⟩ = some (.int .i64 t.r.count) ∧
    w.cell? ⟨g, 4, none⟩ = some (.int .i64 t.r.s0) ∧ w.cell? ⟨g, 5, none⟩ = some (.int .i64 t.r.s1) ∧ w.cell? ⟨g, 6, none⟩ = some (.int .i64 (t.seq : Int)) ∧ w.cell? ⟨g, 7, none⟩ = some (.int .i64 (t.block : Int)) ∧ w.cell? ⟨g, 8, none⟩ = some (.bool t.dead) := by
  refine ⟨?_, ?_, ?_, ?_, ?_, ?_, ?_, ?_, ?_⟩ <;> (rw [cell_of_row _ _ _ _ _ _ h.row]; rfl)
theorem Bt.lt {w : World} {g q : Nat} {t : BS} (h : Bt w g q t) : g < w.heap.size := (Array.getElem?_eq_some_iff.1 h.row).1
theorem Bt.free {w : World} {g q : Nat} {t : BS} (h : Bt w g q t) (i : Nat) : w.frozen? ⟨g, i, none⟩ = false := frozen_of_row _ _ _ _ _ h.row
theorem Bt.upd {w w' : World} {g q : Nat} {t : BS} {S : List Nat} (h : Bt w g q t) (hu : Upd S w w') (hn : g ∉ S) : Bt w' g q t := ⟨(hu.block _ h.lt hn).trans h.row⟩
theorem Bt.setDead {w : World} {g q : Nat} {t : BS} (h : Bt w g q t) (b : Bool) : Bt (w.setCell ⟨g, 8, none⟩ (.bool b)) g q { t with dead := b } :=
  ⟨by rw [heap_setCell_same _ _ _ _ _ _ h.row]; rfl⟩
/-- All blocks of a store are apart. -/
structure Bap (g q p bb cb : Nat) : Prop where
  hq : q ∉ [g, p, bb, cb]
  hg : g ∉ [p, bb, cb]
theorem Bap.nm {g q p bb cb : Nat} (h : Bap g q p bb cb) : p ≠ g ∧ bb ≠ g ∧ cb ≠ g ∧ q ≠ g ∧ q ≠ p ∧ q ≠ bb ∧ q ≠ cb := by
  have h1 := h.hq; have h2 := h.hg
  simp only [List.mem_cons, List.not_mem_nil, or_false, not_or] at h1 h2
  refine ⟨?_, ?_, ?_, ?_, ?_, ?_, ?_⟩ <;> omega
/-- A store over a part of two blocks over a flash. -/
structure BtS (w : World) (F : Nat) (g q p bb cb : Nat) (s : FS) (t : BS) : Prop where
  ap : Bap g q p bb cb
  f : Fl 84 w p bb cb s
  ok : s.Ok
  pa : Pa w q p F 2
  i : In s.n.length F 2
  bt : Bt w g q t
theorem BtS.flash {w w' : World} {F g q p bb cb : Nat} {s s' : FS} {t : BS} (h : BtS w F g q p bb cb s t) (hf : Fl 84 w' p bb cb s') (ho : s'.Ok) (hn : s'.n.length = s.n.length) (hu : Upd [p, bb, cb] w w') : BtS w' F g q p bb cb s' t :=
  ⟨h.ap, hf, ho, h.pa.upd hu (fun hm => h.ap.hq (List.mem_cons_of_mem _ hm)), by rw [hn]; exact h.i, h.bt.upd hu h.ap.hg⟩
theorem BtS.own {w w' : World} {F g q p bb cb : Nat} {s : FS} {t t' : BS} (h : BtS w F g q p bb cb s t) (hl : Bt w' g q t') (hu : Upd [g] w w') : BtS w' F g q p bb cb s t' :=
  ⟨h.ap, h.f.upd hu (by simp; exact h.ap.nm.1) (by simp; exact h.ap.nm.2.1) (by simp; exact h.ap.nm.2.2.1), h.ok, h.pa.upd hu (by simp; exact h.ap.nm.2.2.2.1), h.i, hl⟩
theorem BtS.keep {w w' : World} {F g q p bb cb : Nat} {s : FS} {t : BS} (h : BtS w F g q p bb cb s t) (hu : Upd [] w w') : BtS w' F g q p bb cb s t :=
  ⟨h.ap, h.f.upd hu (by simp) (by simp) (by simp), h.ok, h.pa.upd hu (by simp), h.i, h.bt.upd hu (by simp)⟩
theorem btold_any (g q : Nat) (t : BS) (e : Int) (w : World) (h : Bt w g q t) :
    Calls Tryz.prog 61 #[.pointer (some ⟨g, 0, none⟩), .int .i64 e] w fun x w' => x = .returned (.int .i64 e) ∧ Bt w' g q (t.told e) ∧ Upd [g] w w' := by
  obtain ⟨c0, c1, c2, c3, c4, c5, c6, c7, c8⟩ := h.cells
  have f8 := h.free 8
  have L1 := Box.mk (fun b => h.setDead b)
  unfold BS.told
  generalize t.dead = dd at c8 ⊢
  clear h c0 c1 c2 c3 c4 c5 c6 c7
  cases dd with
  | true =>
    go_enter Tryz.func61, Tryz.ntmps61
    go_wp2
    go_ret
    exact ⟨rfl, L1.out true, (Upd.refl _ _).setCell (by simp) _⟩
  | false =>
    go_enter Tryz.func61, Tryz.ntmps61
    go_wp2
    go_ret
    exact ⟨rfl, L1.out (e == 2), (Upd.refl _ _).setCell (by simp) _⟩
set_option maxHeartbeats 1000000 in
theorem bclean_any (g q p bb cb F : Nat) (s : FS) (t : BS) (k : Nat) (w : World) (h : BtS w F g q p bb cb s t) (hk : k ≤ 256) :
    Calls Tryz.prog 41 #[.pointer (some ⟨g, 0, none⟩), .int .i64 k] w fun e w' => e = .returned (.int .i64 (s.bclean F t k).2.2) ∧ BtS w' F g q p bb cb (s.bclean F t k).1 (s.bclean F t k).2.1 ∧ Upd [g, p, bb, cb] w w' := by
  obtain ⟨c0, _, _, _, _, _, _, _, _⟩ := h.bt.cells
  have hw0 : IntKind.i64.wrap ((k : Int) * 512) = ((512 * k : Nat) : Int) := by rw [IntKind.wrap_i64]; omega
  have PC := Box.mk (pclean_any q p bb cb F 2 s ((512 * k : Nat) : Int) 512 w h.f h.ok h.pa h.i (by omega) (by omega))
  have PE := Box.mk (perase_any q p bb cb F 2 s (k : Int) w h.f h.ok h.pa h.i)
  have TD := Box.mk (fun s w (h : BtS w F g q p bb cb s t) e => btold_any g q t e w h.bt)
  have HC := Box.mk (show s.wclean F 2 k = if (pcleanV s F 2 (512 * k : Nat) 512).2 ≠ 0 then (s, (pcleanV s F 2 (512 * k : Nat) 512).2) else if (pcleanV s F 2 (512 * k : Nat) 512).1 = true then (s, 0) else s.perase F 2 k from rfl)
  have EO := Box.mk (FS.perase_ok h.ok F 2 k)
  unfold FS.bclean
  generalize s.wclean F 2 k = c at HC ⊢
  generalize s.perase F 2 (k : Int) = r at PE HC EO
  generalize pcleanV s F 2 ((512 * k : Nat) : Int) 512 = x at PC HC
  obtain ⟨x1, x2⟩ := x
  obtain ⟨r1, r2⟩ := r
  dsimp only at PC HC PE EO ⊢
  have H := Box.mk h
  clear h hk
  by_cases hx : x2 = 0
  · have hxb : (x2 != 0) = false := by simpa using hx
    have hc := HC.out
    rw [if_neg (by simpa using hx)] at hc
    cases x1 with
    | true =>
      rw [if_pos rfl] at hc
      subst hx
      subst hc
      dsimp only
      clear HC PE EO
      go_enter Tryz.func41, Tryz.ntmps41
      go_wp2_with fail
      refine PC.out.mono ?_
      rintro e w1 ⟨rfl, rfl⟩
      go_wp2_with fail
      refine (TD.out _ _ H.out _).mono ?_
      rintro e w1 ⟨rfl, hl, hu⟩
      have L1 := Box.mk (H.out.own hl hu); have U1 := Box.mk (hu.mono (T := [g, p, bb, cb]) (by simp)); clear hl hu
      go_wp2_with fail
      go_ret
      exact ⟨rfl, L1.out, U1.out⟩
    | false =>
      rw [if_neg (by simp)] at hc
      subst hc
      dsimp only
      clear HC
      go_enter Tryz.func41, Tryz.ntmps41
      go_wp2_with fail
      refine PC.out.mono ?_
      rintro e w1 ⟨rfl, rfl⟩
      go_wp2_with fail
      refine PE.out.mono ?_
      rintro e w2 ⟨rfl, hf, hu⟩
      have H2 := Box.mk (H.out.flash hf EO.out.1 EO.out.2 hu); have U2 := Box.mk hu; clear hf hu
      go_wp2_with fail
      refine (TD.out _ _ H2.out _).mono ?_
      rintro e w1 ⟨rfl, hl, hu⟩
      have L1 := Box.mk (H2.out.own hl hu); have U1 := Box.mk ((U2.out.mono (T := [g, p, bb, cb]) (by simp)).trans (hu.mono (T := [g, p, bb, cb]) (by simp))); clear hl hu
      go_wp2_with fail
      go_ret
      exact ⟨rfl, L1.out, U1.out⟩
  · have hxb : (x2 != 0) = true := by rw [bne_iff_ne]; exact hx
    have hc := HC.out
    rw [if_pos hx] at hc
    subst hc
    dsimp only
    clear HC PE EO hx
    go_enter Tryz.func41, Tryz.ntmps41
    go_wp2_with fail
    refine PC.out.mono ?_
    rintro e w1 ⟨rfl, rfl⟩
    go_wp2_with fail
    refine (TD.out _ _ H.out _).mono ?_
    rintro e w1 ⟨rfl, hl, hu⟩
    have L1 := Box.mk (H.out.own hl hu); have U1 := Box.mk (hu.mono (T := [g, p, bb, cb]) (by simp)); clear hl hu
    go_wp2_with fail
    go_ret
    exact ⟨rfl, L1.out, U1.out⟩
end Go.Proofs.YtgcbmjflodgnbaaGreatDoor
namespace Go.Proofs.YtgcbmjflodgnbaaGreatDoor
set_option maxRecDepth 100000
set_option linter.unusedVariables false
open Go Go.RowKit

theorem may_any (r : BR) (w : World) : Calls Tryz.prog 39 #[brV r] w fun e w' => e = .returned (.bool r.may) ∧ Below w.heap.size w w' := by
  obtain ⟨V, hV⟩ : ∃ V, V = r.may := ⟨_, rfl⟩
  rw [← hV]
  have HV := Box.mk hV
  clear hV
  obtain ⟨sl, up, ct, s0, s1⟩ := r
  unfold BR.may at HV
  unfold brV brC
  dsimp only at HV ⊢
  have HR := Box.mk (show (w.alloc (.cells #[.int .i64 sl, .bool up, .int .i64 ct, .int .i64 s0, .int .i64 s1] 24)).rangeAt w.heap.size 3 [.int .i64 s0, .int .i64 s1] from fun j v hj => by
    rw [cell_of_row _ _ _ _ _ _ (heap_alloc_new _ _)]
    match j, hj with
    | 0, hj => simp at hj; subst hj; rfl
    | 1, hj => simp at hj; subst hj; rfl)
  have HQ : ∀ X : Bool, X = V → Below w.heap.size w (w.alloc (.cells #[.int .i64 sl, .bool up, .int .i64 ct, .int .i64 s0, .int .i64 s1] 24)) → (Ending.returned (.bool X) = .returned (.bool V) ∧ Below w.heap.size w (w.alloc (.cells #[.int .i64 sl, .bool up, .int .i64 ct, .int .i64 s0, .int .i64 s1] 24))) := fun X h hb => ⟨by rw [h], hb⟩
  have HQ := Box.mk HQ
  have HB := Box.mk ((Below.refl _ w).alloc (Nat.le_refl _) (.cells #[.int .i64 sl, .bool up, .int .i64 ct, .int .i64 s0, .int .i64 s1] 24))
  have hix0 : ∀ w, (Instr.index 22 (.agg #[.int .i64 s0, .int .i64 s1]) (.int .i64 0)).run Tryz.prog w = .ok (.int .i64 s0) w := fun w => by kernel_rfl
  have hix1 : ∀ w, (Instr.index 22 (.agg #[.int .i64 s0, .int .i64 s1]) (.int .i64 1)).run Tryz.prog w = .ok (.int .i64 s1) w := fun w => by kernel_rfl
  have hld := run_loadAt_mid (P := Tryz.prog) _ w.heap.size 3 22 [.int .i64 s0, .int .i64 s1] _ HR.out Tryz.underlying22 rfl (by kernel_rfl)
  rcases (by omega : sl = 0 ∨ sl = 1 ∨ (sl ≠ 0 ∧ sl ≠ 1)) with rfl | rfl | ⟨h0, h1⟩
  case' inr.inr =>
    have e0 : (sl == 0) = false := by rw [beq_eq_false_iff_ne]; exact h0
    have e1 : (sl == 1) = false := by rw [beq_eq_false_iff_ne]; exact h1
  all_goals
    go_enter Tryz.func39, Tryz.ntmps39
    go_wp2
  all_goals
    refine wp_loop_rounds 3 ?_
    rw [rounds_succ]; go_wp2
  all_goals (rw [rounds_succ]; go_wp2)
  all_goals (rw [rounds_succ]; go_wp2)
  all_goals go_ret
  all_goals
    refine HQ.out _ ?_ HB.out
    rw [HV.out]
    first
    | (symm; rw [decide_eq_true_iff]; omega)
    | (symm; rw [decide_eq_false_iff_not]; omega)
    | (rw [decide_eq_decide]; exact ⟨fun h => ⟨by simp, by omega, by omega, by omega⟩, fun h => h.2.2.2.2⟩)

theorem body_any (r : BR) (n : Nat) (hr : r.May) (hn : n < 281474976710656) (w : World) :
    Calls Tryz.prog 64 #[brV r, .int .i64 (n : Int)] w fun e w' => e = .returned (.string ⟨(bodyB r n).toArray⟩) ∧ Below w.heap.size w w' := by
  have PU := Box.mk (fun w => cput_any n 6 (by omega) (by rw [show (256 : Nat) ^ 6 = 281474976710656 from rfl]; exact hn) w)
  obtain ⟨sl, up, ct, s0, s1⟩ := r
  obtain ⟨h1, h2, h3, h4⟩ := hr
  unfold brV brC bodyB
  dsimp only at h1 h2 h3 h4 ⊢
  obtain ⟨sl, rfl⟩ : ∃ x : Nat, sl = (x : Int) := ⟨sl.toNat, by omega⟩
  obtain ⟨ct, rfl⟩ : ∃ x : Nat, ct = (x : Int) := ⟨ct.toNat, by omega⟩
  obtain ⟨s0, rfl⟩ : ∃ x : Nat, s0 = (x : Int) := ⟨s0.toNat, by omega⟩
  obtain ⟨s1, rfl⟩ : ∃ x : Nat, s1 = (x : Int) := ⟨s1.toNat, by omega⟩
  have PA := Box.mk (fun w => cput_any s0 3 (by omega) (by rw [show (256 : Nat) ^ 3 = 16777216 from rfl]; omega) w)
  have PB := Box.mk (fun w => cput_any s1 3 (by omega) (by rw [show (256 : Nat) ^ 3 = 16777216 from rfl]; omega) w)
  have HX : Box (∀ u, (((((⟨#[66]⟩ : ByteArray) ++ ⟨(leList 6 n).toArray⟩) ++ ⟨#[UInt8.ofNat sl, u, UInt8.ofNat ct]⟩) ++ ⟨(leList 3 s0).toArray⟩) ++ ⟨(leList 3 s1).toArray⟩) = ⟨(66 :: (leList 6 n ++ (UInt8.ofNat sl :: u :: UInt8.ofNat ct :: (leList 3 s0 ++ leList 3 s1)))).toArray⟩) := ⟨fun u => by
    apply ByteArray.ext; simp only [ByteArray.data_append]; apply Array.toList_inj.1; simp⟩
  clear hn
  obtain ⟨b0, hb0⟩ : ∃ b0, b0 = w.heap.size := ⟨_, rfl⟩
  have ROW := Box.mk (show (w.alloc (.cells #[.int .i64 (sl : Int), .bool up, .int .i64 (ct : Int), .int .i64 (s0 : Int), .int .i64 (s1 : Int)] 24)).heap[b0]? = some (.cells #[.int .i64 (sl : Int), .bool up, .int .i64 (ct : Int), .int .i64 (s0 : Int), .int .i64 (s1 : Int)] 24 (0, 0)) from by rw [hb0]; exact heap_alloc_new _ _)
  have CE := Box.mk (fun (w' : World) (h : w'.heap[b0]? = some (.cells #[.int .i64 (sl : Int), .bool up, .int .i64 (ct : Int), .int .i64 (s0 : Int), .int .i64 (s1 : Int)] 24 (0, 0))) => (show w'.cell? ⟨b0, 0, none⟩ = some (.int .i64 (sl : Int)) ∧ w'.cell? ⟨b0, 2, none⟩ = some (.int .i64 (ct : Int)) ∧ w'.cell? ⟨b0, 3, none⟩ = some (.int .i64 (s0 : Int)) ∧ w'.cell? ⟨b0, 4, none⟩ = some (.int .i64 (s1 : Int)) from by
    refine ⟨?_, ?_, ?_, ?_⟩ <;> (rw [cell_of_row _ _ _ _ _ _ h]; rfl)))
  have B0 := Box.mk (show Below b0 w (w.alloc (.cells #[.int .i64 (sl : Int), .bool up, .int .i64 (ct : Int), .int .i64 (s0 : Int), .int .i64 (s1 : Int)] 24)) ∧ b0 < (w.alloc (.cells #[.int .i64 (sl : Int), .bool up, .int .i64 (ct : Int), .int .i64 (s0 : Int), .int .i64 (s1 : Int)] 24)).heap.size from ⟨by rw [hb0]; exact (Below.refl _ w).alloc (Nat.le_refl _) _, by rw [hb0]; simp⟩)
  rw [← hb0]
  obtain ⟨u, HU⟩ : ∃ u : UInt8, Box (u = if up then 1 else 0) := ⟨_, ⟨rfl⟩⟩
  have R : ∀ (up : Bool) (u : UInt8), True := fun _ _ => trivial
  cases up
  all_goals
    have hu := HU.out
    simp only [Bool.false_eq_true, if_true, if_false] at hu
    subst hu
    clear HU R
    go_enter Tryz.func64, Tryz.ntmps64
    go_wp2_with fail
    refine (PU.out _).mono ?_
    rintro e w1 ⟨rfl, hb⟩
    rw [← hb0] at *
    have B1 := Box.mk (show Below b0 w w1 ∧ b0 < w1.heap.size ∧ _ from ⟨B0.out.1.trans (hb.mono (Nat.le_of_lt B0.out.2)), Nat.lt_of_lt_of_le B0.out.2 hb.size, (hb.block b0 B0.out.2).trans ROW.out⟩)
    clear hb B0 ROW
    obtain ⟨d0, d2, d3, d4⟩ := CE.out w1 B1.out.2.2
    go_wp2_with fail
    refine (PA.out _).mono ?_
    rintro e w2 ⟨rfl, hb⟩
    have B2 := Box.mk (show Below b0 w w2 ∧ b0 < w2.heap.size ∧ _ from ⟨B1.out.1.trans (hb.mono (Nat.le_of_lt B1.out.2.1)), Nat.lt_of_lt_of_le B1.out.2.1 hb.size, (hb.block b0 B1.out.2.1).trans B1.out.2.2⟩)
    clear hb B1 d0 d2 d3 d4
    obtain ⟨d0, d2, d3, d4⟩ := CE.out w2 B2.out.2.2
    go_wp2_with fail
    refine (PB.out _).mono ?_
    rintro e w3 ⟨rfl, hb⟩
    have B3 := Box.mk (show Below b0 w w3 ∧ b0 < w3.heap.size ∧ _ from ⟨B2.out.1.trans (hb.mono (Nat.le_of_lt B2.out.2.1)), Nat.lt_of_lt_of_le B2.out.2.1 hb.size, (hb.block b0 B2.out.2.1).trans B2.out.2.2⟩)
    clear hb B2 d0 d2 d3 d4
    obtain ⟨d0, d2, d3, d4⟩ := CE.out w3 B3.out.2.2
    have hcv1 : (convert 42 9 (.slice (some ⟨w3.heap.size, 0, none⟩) 1 1)).run Tryz.prog (w3.alloc (.cells #[.int .u8 66] 5)) = .ok (.string ⟨#[66]⟩) (w3.alloc (.cells #[.int .u8 66] 5)) :=
      run_bytes_at Tryz.prog _ w3.heap.size 0 1 [66] 42 9 5 1 (by simp) Tryz.underlying42 Tryz.underlying5 Tryz.underlying9 (fun j u hu => by
        rw [cell_of_row _ _ _ _ _ _ (heap_alloc_new _ _)]
        match j, hu with
        | 0, hu => simp at hu; subst hu; rfl
        | j + 1, hu => simp at hu)
    have hs0 : IntKind.u8.wrap (sl : Int) = (sl : Int) := by rw [IntKind.wrap_u8]; omega
    have hs1 : IntKind.u8.wrap (ct : Int) = (ct : Int) := by rw [IntKind.wrap_u8]; omega
    have B4 := Box.mk (show Below b0 w (w3.alloc (.cells #[.int .u8 66] 5)) ∧ b0 ≤ (w3.alloc (.cells #[.int .u8 66] 5)).heap.size from ⟨B3.out.1.alloc (Nat.le_of_lt B3.out.2.1) _, by have := B3.out.2.1; simp; omega⟩)
    clear d0 d2 d3 d4
    obtain ⟨d0, d2, d3, d4⟩ := CE.out (w3.alloc (.cells #[.int .u8 66] 5)) ((heap_alloc_old _ _ B3.out.2.1).trans B3.out.2.2)
    clear d3 d4 B3
    have hcv2 := fun (x : UInt8) => run_bytes_at Tryz.prog ((w3.alloc (.cells #[.int .u8 66] 5)).alloc (.cells #[.int .u8 (sl : Int), .int .u8 (x.toNat : Int), .int .u8 (ct : Int)] 5)) (w3.heap.size + 1) 0 3 [UInt8.ofNat sl, x, UInt8.ofNat ct] 42 9 5 3 rfl Tryz.underlying42 Tryz.underlying5 Tryz.underlying9 (fun j u hu => by
      rw [cell_of_row _ _ _ _ _ _ (show ((w3.alloc (.cells #[.int .u8 66] 5)).alloc (.cells #[.int .u8 (sl : Int), .int .u8 (x.toNat : Int), .int .u8 (ct : Int)] 5)).heap[w3.heap.size + 1]? = _ from by
        have := heap_alloc_new (w3.alloc (.cells #[.int .u8 66] 5)) (.cells #[.int .u8 (sl : Int), .int .u8 (x.toNat : Int), .int .u8 (ct : Int)] 5)
        rwa [show (w3.alloc (.cells #[.int .u8 66] 5)).heap.size = w3.heap.size + 1 by simp] at this)]
      match j, hu with
      | 0, hu => simp at hu; subst hu; rw [UInt8.toNat_ofNat', show sl % 2 ^ 8 = sl by omega]; rfl
      | 1, hu => simp at hu; subst hu; rfl
      | 2, hu => simp at hu; subst hu; rw [UInt8.toNat_ofNat', show ct % 2 ^ 8 = ct by omega]; rfl
      | j + 3, hu => simp at hu)
    have hcv20 := hcv2 0; have hcv21 := hcv2 1
    simp only [show ((0 : UInt8).toNat : Int) = 0 from rfl, show ((1 : UInt8).toNat : Int) = 1 from rfl] at hcv20 hcv21
    clear hcv2
    have B5 := Box.mk (fun o => B4.out.1.alloc B4.out.2 o)
    clear B4
    have hz6 : ByteArray.size ⟨(leList 6 n).toArray⟩ = 6 := by show (leList 6 n).toArray.size = 6; simp [leList_length]
    have hz3 : ByteArray.size ⟨(leList 3 s0).toArray⟩ = 3 := by show (leList 3 s0).toArray.size = 3; simp [leList_length]
    have hz4 : ByteArray.size ⟨(leList 3 s1).toArray⟩ = 3 := by show (leList 3 s1).toArray.size = 3; simp [leList_length]
    go_wp2_with fail
    go_ret
    exact ⟨by rw [← HX.out]; rfl, B5.out _⟩
end Go.Proofs.YtgcbmjflodgnbaaGreatDoor
