/- The package codes: Put, Get. Logs: the plain states. Logs: the plain answers of Open, Records, Room, Append, drop. Logs: plain laws of a block's records. The flash: a torn step: plain laws. The flash: which bits a call may set or clear: plain laws. -/
import Derived.Test.YtjednaendedpdaaGreatM02
import Derived.Test.YtjednaendedpdaaGreatM04
import Derived.Test.YtjednaendedpdaaGreatM03
import Derived.Laws.BitsAllLaws
namespace Go.Proofs.YtjednaendedpdaaGreat
set_option maxRecDepth 100000
set_option linter.unusedVariables false
open Go Go.RowKit

theorem i64_or_nat (a b : Nat) (ha : a < 9223372036854775808) (hb : b < 9223372036854775808) : bits .or .i64 (a : Int) (b : Int) = ((a ||| b : Nat) : Int) := by
  have hx : a ||| b < 2 ^ 63 := Nat.or_lt_two_pow (by omega) (by omega)
  show IntKind.i64.wrap ((BitVec.ofInt 64 (a : Int) ||| BitVec.ofInt 64 (b : Int)).toNat : Int) = _
  rw [BitVec.toNat_or, ofInt_u64 a (by omega), ofInt_u64 b (by omega), IntKind.wrap_i64]
  omega
theorem str_ne' (s : ByteArray) (h : s.size ≠ 0) : s.toList.isEmpty = false := by
  rw [ByteArray.toList_eq]; cases hd : s.data.toList with
  | nil => exact absurd (by have := congrArg List.length hd; simpa using this) h
  | cons a b => rfl
theorem e256 (q : Nat) : 256 ^ q = 2 ^ (8 * q) := by rw [Nat.pow_mul]
/-- A byte of a number. -/
theorem shr_byte (n i : Nat) : ∃ d c : Nat, (n : Int) / 2 ^ (8 * i) = (d : Int) ∧ IntKind.u8.wrap (d : Int) = (c : Int) ∧ Box (c = n / 256 ^ i % 256) := by
  refine ⟨n / 256 ^ i, _, ?_, by rw [IntKind.wrap_u8]; rfl, ⟨rfl⟩⟩
  rw [e256, show ((2 : Int) ^ (8 * i)) = ((2 ^ (8 * i) : Nat) : Int) from by simp, ← Int.natCast_ediv]
/-- A byte more of a number. -/
theorem or_byte (a b i : Nat) (ha : a < 256 ^ i) (hb : b < 256) (hi : i ≤ 6) : bits .or .i64 (a : Int) (IntKind.i64.wrap ((b : Int) * 2 ^ (8 * i))) = ((a + 256 ^ i * b : Nat) : Int) := by
  have h56 : b * 2 ^ (8 * i) ≤ 255 * 2 ^ 48 := Nat.mul_le_mul (by omega) (Nat.pow_le_pow_right (by omega) (by omega))
  have ha' : a < 2 ^ (8 * i) := by rw [← e256]; exact ha
  have h48 : 2 ^ (8 * i) ≤ 2 ^ 48 := Nat.pow_le_pow_right (by omega) (by omega)
  have e : IntKind.i64.wrap ((b : Int) * 2 ^ (8 * i)) = ((b * 2 ^ (8 * i) : Nat) : Int) := by
    rw [show ((2 : Int) ^ (8 * i)) = ((2 ^ (8 * i) : Nat) : Int) from by simp, ← Int.natCast_mul, IntKind.wrap_i64]
    omega
  rw [e, i64_or_nat a _ (by omega) (by omega), Nat.or_comm, nat_join (8 * i) _ _ (Nat.mul_mod_left _ _) ha', e256, Nat.mul_comm b]
  congr 1; omega

set_option maxHeartbeats 2000000 in
theorem cput_any (n k : Nat) (hk : 1 ≤ k ∧ k ≤ 7) (hn : n < 256 ^ k) (w : World) :
    Calls Tryz.prog 79 #[.int .i64 n, .int .i64 k] w fun e w' => e = .returned (.tuple #[.string ⟨(leList k n).toArray⟩, .int .i64 0]) ∧ Below w.heap.size w w' := by
  obtain ⟨h1, h7⟩ := hk
  have g0 : decide ((k : Int) < 1) = false := by rw [decide_eq_false_iff_not]; omega
  have g1 : decide (7 < (k : Int)) = false := by rw [decide_eq_false_iff_not]; omega
  have g2 : decide ((n : Int) < 0) = false := by rw [decide_eq_false_iff_not]; omega
  have hz : ((n : Int) / 2 ^ (8 * k) != 0) = false := by
    rw [bne_eq_false_iff_eq, show ((2 : Int) ^ (8 * k)) = ((2 ^ (8 * k) : Nat) : Int) from by simp, ← Int.natCast_ediv, ← e256, Nat.div_eq_of_lt hn]; rfl
  have hmk := fun w => make_bytes k k rfl (by omega) w
  have r0 : (w.alloc (.cells (Array.replicate k (.int .u8 0)) 5)).heap[w.heap.size]? = some (.cells (bcells n 0 k) 5 (0, 0)) := by
    rw [heap_alloc_new]; congr 2; apply Array.ext'; apply List.ext_getElem?; intro i; by_cases hi : i < k <;> simp [bcells, hi]
  have R0 := Box.mk r0
  have hkI : (k : Int) ≤ 7 := by omega
  clear hn r0
  go_enter Tryz.func79, Tryz.ntmps79
  go_wp2
  clear hz
  go_loopw [29] (fun i wr => ∃ j : Nat, j ≤ k ∧ i = .int .i64 j ∧ wr.heap[w.heap.size]? = some (.cells (bcells n j k) 5 (0, 0)) ∧ Below w.heap.size w wr) (fun i _ => k - (intOf i).toNat)
  case atStart => exact ⟨0, Nat.zero_le _, rfl, R0.out, (Below.refl _ _).alloc (Nat.le_refl _) _⟩
  case round =>
    obtain ⟨j, hj, rfl, hrow, hb⟩ := hrel
    have HR := Box.mk hrow; have HB := Box.mk hb
    by_cases hlt : j < k
    · have hjI : (j : Int) < (k : Int) := by omega
      obtain ⟨d, c, hd, hd2, HC⟩ := shr_byte n j
      have hc2 : wr.cell? ⟨w.heap.size, j, none⟩ = some (.int .u8 ((if j < j then n / 256 ^ j % 256 else 0 : Nat) : Int)) := by
        rw [cell_of_row _ _ _ _ _ _ hrow]; simp [bcells, hlt]
      have hf : wr.frozen? ⟨w.heap.size, j, none⟩ = false := frozen_of_row _ _ _ _ _ hrow
      clear hrow hb
      go_wp2
      refine ⟨⟨j + 1, by omega, by go_num, ?_, HB.out.setCell (Nat.le_refl _) _⟩, by simp [intOf]; omega⟩
      rw [heap_setCell_same _ _ _ _ _ _ HR.out, HC.out, bcells_step]
    · have hjk : j = k := by omega
      subst hjk
      rw [bcells_all] at hrow
      have hcv := run_bytes_of_row Tryz.prog wr w.heap.size j _ _ 22 9 5 j (leList_length _ _) Tryz.underlying22 Tryz.underlying5 Tryz.underlying9 hrow
      clear hrow hb
      go_wp2
      go_ret2
      exact ⟨rfl, HB.out⟩

set_option maxHeartbeats 2000000 in
theorem cget_any (s : ByteArray) (hs : 1 ≤ s.size ∧ s.size ≤ 7) (w : World) :
    Calls Tryz.prog 61 #[.string s] w fun e w' => e = .returned (.tuple #[.int .i64 (num s : Nat), .int .i64 0]) ∧ w = w' := by
  obtain ⟨h1, h7⟩ := hs
  have hne : s.toList.isEmpty = false := str_ne' s (by omega)
  have h7I : decide (7 < (s.size : Int)) = false := by rw [decide_eq_false_iff_not]; omega
  have h7J : (s.size : Int) ≤ 7 := by omega
  go_enter Tryz.func61, Tryz.ntmps61
  go_wp2
  go_loopw [4, 15] (fun n i wr => ∃ j : Nat, j ≤ s.size ∧ i = .int .i64 j ∧ n = .int .i64 (leNat (s.data.toList.take j) : Nat) ∧ w = wr) (fun _ i _ => s.size - (intOf i).toNat)
  case atStart => exact ⟨0, Nat.zero_le _, rfl, rfl, rfl⟩
  case round =>
    obtain ⟨j, hj, rfl, rfl, rfl⟩ := hrel
    by_cases hlt : j < s.size
    · have hjI : (j : Int) < (s.size : Int) := by omega
      have hor := or_byte (leNat (s.data.toList.take j)) s[j].toNat j (by have := leNat_lt (s.data.toList.take j); rw [List.length_take, Nat.min_eq_left (by simpa using hj)] at this; exact this) s[j].toNat_lt (by omega)
      have hnx : leNat (s.data.toList.take j) + 256 ^ j * s[j].toNat = leNat (s.data.toList.take (j + 1)) := by
        rw [take_snoc s j hlt, leNat_snoc, List.length_take, Nat.min_eq_left (by simpa using hj)]
      rw [hnx] at hor
      clear hnx
      go_wp2
      refine ⟨⟨j + 1, by omega, by go_num, ?_, trivial⟩, by simp [intOf]; omega⟩
      have ew : ∀ x, wrap64 x = IntKind.i64.wrap x := fun x => (IntWalk.i64_left x).symm
      have hb := s[j].toNat_lt
      rw [ew, ew, show IntKind.i64.wrap (s[j].toNat : Int) = (s[j].toNat : Int) by rw [IntKind.wrap_i64]; omega, hor]
    · have hjk : j = s.size := by omega
      subst hjk
      have e : s.data.toList.take s.size = s.data.toList := List.take_of_length_le (by simp)
      rw [e]
      go_wp2
      go_ret2
      exact ⟨rfl, rfl⟩
end Go.Proofs.YtjednaendedpdaaGreat
namespace Go.Proofs.YtjednaendedpdaaGreat
set_option maxRecDepth 100000
set_option linter.unusedVariables false
open Go Go.RowKit

/-- How many pages a record takes. -/
def pgs (n : Nat) : Nat := if 400 < n then 0 else if n ≤ 60 then 1 else 1 + (n - 60 + 62) / 63
/-- A log's state: its segments (block, number), the oldest first; whether the power went. -/
structure LS where
  segs : List (Nat × Nat)
  dead : Bool
def LS.told (l : LS) (e : Int) : LS := { l with dead := l.dead || e == 2 }
/-- A segment's first seven bytes. -/
def begL (num : Nat) : List UInt8 := 83 :: leList 6 num
def FS.lclean (s : FS) (F B : Int) (l : LS) (b : Nat) : FS × LS × Int := ((s.wclean F B b).1, l.told (s.wclean F B b).2, (s.wclean F B b).2)
def FS.lwrite (s : FS) (F B : Int) (l : LS) (at_ : Nat) (t : List UInt8) : FS × LS × Int := ((s.pwrite F B at_ t).1, l.told (s.pwrite F B at_ t).2, (s.pwrite F B at_ t).2)
def FS.lmakes (s : FS) (F B : Int) (l : LS) (b num : Nat) : FS × LS × Int :=
  let c := s.lclean F B l b
  if c.2.2 ≠ 0 then c else
  let a := c.1.lwrite F B c.2.1 (512 * b) (begL num)
  if a.2.2 ≠ 0 then a else
  let z := a.1.lwrite F B a.2.1 (512 * b + 7) [0]
  if z.2.2 ≠ 0 then z else (z.1, { z.2.1 with segs := z.2.1.segs ++ [(b, num)] }, 0)
theorem FS.lclean_ok {s : FS} (h : s.Ok) (F B : Int) (l : LS) (b : Nat) : (s.lclean F B l b).1.Ok ∧ (s.lclean F B l b).1.n.length = s.n.length := FS.wclean_ok h F B b
theorem FS.lwrite_ok {s : FS} (h : s.Ok) (F B : Int) (l : LS) (a : Nat) (t : List UInt8) : (s.lwrite F B l a t).1.Ok ∧ (s.lwrite F B l a t).1.n.length = s.n.length := FS.pwrite_ok h F B a t
theorem FS.lmakes_ok {s : FS} (h : s.Ok) (F B : Int) (l : LS) (b num : Nat) : (s.lmakes F B l b num).1.Ok ∧ (s.lmakes F B l b num).1.n.length = s.n.length := by
  unfold FS.lmakes
  have h1 := FS.lclean_ok h F B l b
  generalize s.lclean F B l b = c at h1 ⊢
  have h2 := FS.lwrite_ok h1.1 F B c.2.1 (512 * b) (begL num)
  dsimp only
  split
  · exact h1
  · generalize c.1.lwrite F B c.2.1 (512 * b) (begL num) = a at h2 ⊢
    have h3 := FS.lwrite_ok h2.1 F B a.2.1 (512 * b + 7) [0]
    split
    · exact ⟨h2.1, h2.2.trans h1.2⟩
    · generalize a.1.lwrite F B a.2.1 (512 * b + 7) [0] = z at h3 ⊢
      split <;> exact ⟨h3.1, h3.2.trans (h2.2.trans h1.2)⟩
end Go.Proofs.YtjednaendedpdaaGreat
namespace Go.Proofs.YtjednaendedpdaaGreat
set_option maxRecDepth 100000
set_option linter.unusedVariables false
open Go Go.RowKit

/-- How many of the first n hold, one behind the other. -/
def runB (p : Nat → Bool) : Nat → Nat
  | 0 => 0
  | n + 1 => if p 0 then 1 + runB (fun k => p (k + 1)) n else 0
theorem runB_le : ∀ (n : Nat) (p : Nat → Bool), runB p n ≤ n
  | 0, _ => Nat.le_refl _
  | n + 1, p => by
    rw [runB]; split
    · have := runB_le n (fun k => p (k + 1)); omega
    · omega
theorem runB_spec : ∀ (n : Nat) (p : Nat → Bool) (k : Nat), k ≤ n → (∀ j, j < k → p j = true) → (k = n ∨ p k = false) → runB p n = k
  | 0, p, k, h, _, _ => by simp [runB]; omega
  | n + 1, p, 0, _, _, h => by
    rcases h with h | h
    · omega
    · rw [runB, h]; simp
  | n + 1, p, k + 1, h, h1, h2 => by
    rw [runB, h1 0 (by omega), if_pos rfl, runB_spec n (fun k => p (k + 1)) k (by omega) (fun j hj => h1 (j + 1) (by omega)) (by
      rcases h2 with h2 | h2
      · exact .inl (by omega)
      · exact .inr h2)]
    omega
theorem runB_true : ∀ (n : Nat) (p : Nat → Bool) (j : Nat), j < runB p n → p j = true
  | 0, p, j, h => by simp [runB] at h
  | n + 1, p, 0, h => by
    rw [runB] at h
    by_cases hp : p 0 = true
    · exact hp
    · rw [if_neg hp] at h; omega
  | n + 1, p, j + 1, h => by
    rw [runB] at h
    by_cases hp : p 0 = true
    · rw [if_pos hp] at h
      exact runB_true n (fun k => p (k + 1)) j (by omega)
    · rw [if_neg hp] at h; omega
theorem runB_false : ∀ (n : Nat) (p : Nat → Bool), runB p n = n ∨ p (runB p n) = false
  | 0, p => .inl rfl
  | n + 1, p => by
    rw [runB]
    by_cases hp : p 0 = true
    · rw [if_pos hp]
      rcases runB_false n (fun k => p (k + 1)) with h | h
      · exact .inl (by omega)
      · exact .inr (by rw [show 1 + runB (fun k => p (k + 1)) n = runB (fun k => p (k + 1)) n + 1 by omega]; exact h)
    · rw [if_neg hp]; exact .inr (by simpa using hp)

/-- A block's, a page's bytes. -/
def FS.blk (s : FS) (F b : Nat) : List UInt8 := (s.b.drop (512 * (F + b))).take 512
def FS.pg (s : FS) (F b p : Nat) : List UInt8 := (s.b.drop (512 * (F + b) + 64 * p)).take 64
/-- A segment's first page. -/
def firstL (num : Nat) : List UInt8 := begL num ++ 0 :: List.replicate 56 255
theorem firstL_len (num : Nat) : (firstL num).length = 64 := by simp [firstL, begL, leList_length]
/-- The number of a first page; 0: it is none. -/
def numL (p : List UInt8) : Nat :=
  let n := leNat ((p.drop 1).take 6)
  if n = 0 ∨ firstL n ≠ p then 0 else n
/-- The numbers of a part's blocks. -/
def FS.nums (s : FS) (F B : Nat) : List Nat := (List.range B).map fun b => numL (s.pg F b 0)
/-- The newest of the first k blocks. -/
def nwst (nums : List Nat) : Nat → Nat
  | 0 => 0
  | k + 1 => if nums.getD k 0 > nums.getD (nwst nums k) 0 then k else nwst nums k
/-- Does the k-th block behind the newest go on with the numbers? -/
def backP (nums : List Nat) (nw k : Nat) : Bool := decide (k < nums.getD nw 0) && decide (nums.getD ((nw + nums.length - k) % nums.length) 0 = nums.getD nw 0 - k)
/-- The segments that are found. -/
def segsOf (nums : List Nat) (nw : Nat) : List (Nat × Nat) := ((List.range (runB (backP nums nw) nums.length)).map fun k => ((nw + nums.length - k) % nums.length, nums.getD nw 0 - k)).reverse
/-- What Open tells: an error, or the segments. -/
def FS.lopen (s : FS) (F B : Nat) : Except Int (List (Nat × Nat)) :=
  if B < 4 then .error 140 else if s.dead then .error 2 else
  let nums := s.nums F B
  let nw := nwst nums B
  if nums.getD nw 0 = 0 ∨ 140737488355328 < nums.getD nw 0 then .error 140 else .ok (segsOf nums nw)
/-- Is there a record's head at a page of a block's bytes? -/
def hdrL (s : List UInt8) (p : Nat) : Bool := s.getD (64 * p) 0 == 1 && s.getD (64 * p + 3) 0 == 0
def lenL (s : List UInt8) (p : Nat) : Nat := leNat ((s.drop (64 * p + 1)).take 2)
/-- The bytes of m pages from p on, as a record's. -/
def bodyL (s : List UInt8) (p : Nat) : Nat → List UInt8
  | 0 => []
  | 1 => (s.drop (64 * p + 4)).take 60
  | m + 1 => bodyL s p m ++ (s.drop (64 * (p + m) + 1)).take 63
def goesL (s : List UInt8) (p : Nat) (k : Nat) : Bool := s.getD (64 * (p + 1 + k)) 0 == 2
/-- The record at a page, and how many pages it takes; 0: none. -/
def recL (s : List UInt8) (p : Nat) : List UInt8 × Nat :=
  if hdrL s p = false then ([], 0) else
  if pgs (lenL s p) = 0 ∨ 8 < p + pgs (lenL s p) then ([], 0) else
  if runB (goesL s p) (pgs (lenL s p) - 1) < pgs (lenL s p) - 1 then ([], 0) else
  ((bodyL s p (pgs (lenL s p))).take (lenL s p), pgs (lenL s p))
def recsFrom (s : List UInt8) : Nat → Nat → List (List UInt8)
  | 0, _ => []
  | f + 1, p => if p < 8 then (if (recL s p).2 = 0 then recsFrom s f (p + 1) else (recL s p).1 :: recsFrom s f (p + (recL s p).2)) else []
def recsL (s : List UInt8) : List (List UInt8) := recsFrom s 8 1
/-- A segment's records. -/
def FS.lrecs (s : FS) (F : Nat) (l : LS) (num : Int) : Except Int (List (List UInt8)) :=
  match l.segs.find? fun x => (x.2 : Int) == num with
  | none => .error 140
  | some x => if l.dead || s.dead then .error 2 else .ok (recsL (s.blk F x.1))
/-- The newest segment. -/
def LS.newest (l : LS) : Nat × Nat := l.segs.getD (l.segs.length - 1) (0, 0)
/-- How many pages at the newest segment's end are erased. -/
def clnL (s : List UInt8) (k : Nat) : Bool := ((s.drop (64 * (7 - k))).take 64).all (· == 255)
def FS.lroom (s : FS) (F : Nat) (l : LS) : Nat := if s.dead then 0 else runB (clnL (s.blk F l.newest.1)) 7
/-- A record's page. -/
def pageL (r : List UInt8) (i : Nat) : List UInt8 := if i = 0 then 1 :: (leList 2 r.length ++ 255 :: r.take 60) else 2 :: (r.drop (60 + 63 * (i - 1))).take 63
/-- Its pages from i on, m of them, are written. -/
def FS.lpages (F B : Int) (at_ : Nat) (r : List UInt8) : Nat → Nat → FS → LS → FS × LS × Int
  | 0, _, s, l => (s, l, 0)
  | m + 1, i, s, l =>
    let a := s.lwrite F B l (at_ + 64 * i) (pageL r i)
    if a.2.2 ≠ 0 then a else FS.lpages F B at_ r m (i + 1) a.1 a.2.1
def FS.lput (s : FS) (F B : Nat) (l : LS) (r : List UInt8) : FS × LS × Int :=
  let at_ := 512 * l.newest.1 + 64 * (8 - s.lroom F l)
  let a := FS.lpages F B at_ r (pgs r.length) 0 s l
  if a.2.2 ≠ 0 then a else a.1.lwrite F B a.2.1 (at_ + 3) [0]
def FS.lappend (s : FS) (F B : Nat) (l : LS) (r : List UInt8) (spare : Int) : FS × LS × Int :=
  if spare < 0 then (s, l, 1) else
  if 400 < r.length then (s, l, 141) else
  if l.dead then (s, l, 2) else
  if s.dead then (s, l.told 2, 2) else
  if pgs r.length > s.lroom F l then
    if ((B - l.segs.length : Nat) : Int) ≤ spare then (s, l, 142) else
    let m := s.lmakes F B l ((l.newest.1 + 1) % B) (l.newest.2 + 1)
    if m.2.2 ≠ 0 then m else m.1.lput F B m.2.1 r
  else s.lput F B l r
def FS.ldrop (s : FS) (F B : Nat) (l : LS) (i : Nat) : FS × LS × Int :=
  if l.segs.length = 1 then (s, l, 140) else
  if l.dead then (s, l, 2) else
  let r := s.perase F B (l.segs.getD i (0, 0)).1
  if r.2 ≠ 0 then (r.1, l.told r.2, r.2) else (r.1, { (l.told 0) with segs := l.segs.eraseIdx i }, 0)
def FS.lcleans (s : FS) (F B : Int) (l : LS) : Nat → FS × LS × Int
  | 0 => (s, l, 0)
  | k + 1 => if (FS.lcleans s F B l k).2.2 ≠ 0 then FS.lcleans s F B l k else (FS.lcleans s F B l k).1.lclean F B (FS.lcleans s F B l k).2.1 k
def FS.lformat (s : FS) (F B : Nat) : FS × LS × Int :=
  if B < 4 then (s, ⟨[], false⟩, 140) else
  let c := FS.lcleans s F B ⟨[], false⟩ B
  if c.2.2 ≠ 0 then c else c.1.lmakes F B c.2.1 0 1
end Go.Proofs.YtjednaendedpdaaGreat
namespace Go.Proofs.YtjednaendedpdaaGreat
set_option maxRecDepth 100000
set_option linter.unusedVariables false
open Go Go.RowKit

/-- The records of n pages from p on. -/
def recN (s : List UInt8) : Nat → Nat → List (List UInt8)
  | 0, _ => []
  | n + 1, p => if hdrL s p = true then (recL s p).1 :: recN s n (p + 1) else recN s n (p + 1)
theorem recN_add (s : List UInt8) : ∀ (m n p : Nat), recN s (m + n) p = recN s m p ++ recN s n (p + m)
  | 0, n, p => by simp [recN]
  | m + 1, n, p => by
    rw [show m + 1 + n = (m + n) + 1 by omega, recN, recN, recN_add s m n (p + 1), show p + 1 + m = p + (m + 1) by omega]
    split <;> rfl
theorem recN_none (s : List UInt8) : ∀ (n p : Nat), (∀ i, i < n → hdrL s (p + i) = false) → recN s n p = []
  | 0, p, _ => rfl
  | n + 1, p, h => by
    have h0 := h 0 (by omega)
    rw [Nat.add_zero] at h0
    rw [recN, h0, if_neg (by decide), recN_none s n (p + 1) (fun i hi => by have := h (i + 1) (by omega); rwa [show p + 1 + i = p + (i + 1) by omega])]
theorem recN_congr {s s' : List UInt8} : ∀ (n p : Nat), (∀ i, i < n → hdrL s' (p + i) = hdrL s (p + i) ∧ (hdrL s (p + i) = true → recL s' (p + i) = recL s (p + i))) → recN s' n p = recN s n p
  | 0, p, _ => rfl
  | n + 1, p, h => by
    obtain ⟨h0, h1⟩ := h 0 (by omega)
    rw [Nat.add_zero] at h0 h1
    rw [recN, recN, h0, recN_congr n (p + 1) (fun i hi => by have := h (i + 1) (by omega); rwa [show p + 1 + i = p + (i + 1) by omega])]
    by_cases hh : hdrL s p = true
    · rw [if_pos hh, if_pos hh, h1 hh]
    · rw [if_neg hh, if_neg hh]
/-- Each head is a record's. -/
def Good (s : List UInt8) : Prop := ∀ p, 1 ≤ p → p < 8 → hdrL s p = true → (recL s p).2 ≠ 0
theorem recL_no {s : List UInt8} {p : Nat} (h : hdrL s p = false) : recL s p = ([], 0) := by unfold recL; rw [if_pos h]
theorem goes_of {s : List UInt8} {p n : Nat} (h : ¬ runB (goesL s p) n < n) : ∀ k, k < n → goesL s p k = true := fun k hk => runB_true n _ k (by omega)
structure RecAt (s : List UInt8) (p m : Nat) (r : List UInt8) : Prop where
  hdr : hdrL s p = true
  m1 : m = pgs (lenL s p)
  m0 : m ≠ 0
  le : p + m ≤ 8
  go : ∀ k, k < m - 1 → goesL s p k = true
  r : r = (bodyL s p m).take (lenL s p)
theorem recL_at {s : List UInt8} {p : Nat} (h : (recL s p).2 ≠ 0) : RecAt s p (recL s p).2 (recL s p).1 := by
  by_cases h1 : hdrL s p = false
  · rw [recL_no h1] at h; exact absurd rfl h
  · have h1' : hdrL s p = true := by simpa using h1
    unfold recL at h ⊢
    rw [if_neg h1] at h ⊢
    by_cases h2 : pgs (lenL s p) = 0 ∨ 8 < p + pgs (lenL s p)
    · rw [if_pos h2] at h; exact absurd rfl h
    · rw [if_neg h2] at h ⊢
      by_cases h3 : runB (goesL s p) (pgs (lenL s p) - 1) < pgs (lenL s p) - 1
      · rw [if_pos h3] at h; exact absurd rfl h
      · rw [if_neg h3] at h ⊢
        exact ⟨h1', rfl, h, by omega, goes_of h3, rfl⟩
theorem RecAt.eq {s : List UInt8} {p m : Nat} {r : List UInt8} (h : RecAt s p m r) : recL s p = (r, m) := by
  unfold recL
  obtain ⟨h1, h2, h3, h4, h5, h6⟩ := h
  rw [if_neg (by rw [h1]; decide), if_neg (by omega), if_neg (by rw [← h2, runB_spec _ _ (m - 1) (Nat.le_refl _) h5 (.inl rfl)]; omega), ← h2, ← h6]
theorem goes_hdr {s : List UInt8} {p k : Nat} (h : goesL s p k = true) : hdrL s (p + 1 + k) = false := by
  unfold goesL at h; unfold hdrL
  rw [beq_iff_eq] at h
  rw [h]; rfl
theorem recs_good {s : List UInt8} (h : Good s) : ∀ (f p : Nat), 1 ≤ p → 8 ≤ f + p → recsFrom s f p = recN s (8 - p) p
  | 0, p, h1, h2 => by rw [show 8 - p = 0 by omega]; rfl
  | f + 1, p, h1, h2 => by
    rw [recsFrom]
    by_cases hp : p < 8
    · rw [if_pos hp]
      by_cases hh : hdrL s p = true
      · have hr := h p h1 hp hh
        have ha := recL_at hr
        have hle := ha.le; have hm0 := ha.m0
        rw [if_neg hr, recs_good h f (p + (recL s p).2) (by omega) (by omega)]
        rw [show 8 - p = ((recL s p).2 - 1 + (8 - (p + (recL s p).2))) + 1 by omega, recN, if_pos hh, recN_add, recN_none s ((recL s p).2 - 1) (p + 1) (fun i hi => goes_hdr (ha.go i hi)), List.nil_append, show p + 1 + ((recL s p).2 - 1) = p + (recL s p).2 by omega]
      · have hf : hdrL s p = false := by simpa using hh
        rw [recL_no hf, if_pos rfl, recs_good h f (p + 1) (by omega) (by omega), show 8 - p = (8 - (p + 1)) + 1 by omega, recN, hf, if_neg (by decide)]
    · rw [if_neg hp, show 8 - p = 0 by omega]; rfl
theorem recsL_good {s : List UInt8} (h : Good s) : recsL s = recN s 7 1 := recs_good h 8 1 (Nat.le_refl _) (by omega)

/-- Two lists agree below n. -/
def Agr (s s' : List UInt8) (n : Nat) : Prop := ∀ k, k < n → s'[k]? = s[k]?
theorem Agr.mono {s s' : List UInt8} {n m : Nat} (h : Agr s s' n) (hm : m ≤ n) : Agr s s' m := fun k hk => h k (by omega)
theorem Agr.getD {s s' : List UInt8} {n k : Nat} (h : Agr s s' n) (hk : k < n) : s'.getD k 0 = s.getD k 0 := by rw [List.getD_eq_getElem?_getD, List.getD_eq_getElem?_getD, h k hk]
theorem Agr.cut {s s' : List UInt8} {n a m : Nat} (h : Agr s s' n) (hk : a + m ≤ n) : (s'.drop a).take m = (s.drop a).take m := by
  apply List.ext_getElem?; intro i
  rw [List.getElem?_take, List.getElem?_take, List.getElem?_drop, List.getElem?_drop]
  by_cases hi : i < m
  · rw [if_pos hi, if_pos hi, h _ (by omega)]
  · rw [if_neg hi, if_neg hi]
theorem Agr.hdr {s s' : List UInt8} {b p : Nat} (h : Agr s s' (64 * b)) (hp : p < b) : hdrL s' p = hdrL s p := by
  unfold hdrL; rw [h.getD (by omega), h.getD (by omega)]
theorem Agr.len {s s' : List UInt8} {b p : Nat} (h : Agr s s' (64 * b)) (hp : p < b) : lenL s' p = lenL s p := by
  unfold lenL; rw [h.cut (by omega)]
theorem Agr.body {s s' : List UInt8} {b p : Nat} (h : Agr s s' (64 * b)) : ∀ m, p + m ≤ b → bodyL s' p m = bodyL s p m
  | 0, _ => rfl
  | 1, hm => by rw [bodyL, bodyL, h.cut (by omega)]
  | m + 2, hm => by
    show bodyL s' p (m + 1) ++ _ = bodyL s p (m + 1) ++ _
    rw [h.body (m + 1) (by omega), h.cut (by omega)]
theorem Agr.rec {s s' : List UInt8} {b p : Nat} (h : Agr s s' (64 * b)) (hr : (recL s p).2 ≠ 0) (hb : p + (recL s p).2 ≤ b) : recL s' p = recL s p := by
  have ha := recL_at hr
  have := ha.m0
  have e : RecAt s' p (recL s p).2 (recL s p).1 := ⟨by rw [h.hdr (by omega)]; exact ha.hdr, by rw [h.len (by omega)]; exact ha.m1, ha.m0, ha.le, fun k hk => by
    have := ha.go k hk
    unfold goesL at this ⊢
    rw [h.getD (by omega)]; exact this, by rw [h.body _ hb, h.len (by omega)]; exact ha.r⟩
  rw [e.eq]
/-- Pages from a on are erased. -/
def Cln (s : List UInt8) (a : Nat) : Prop := ∀ p, a ≤ p → p < 8 → s.getD (64 * p) 0 = 255
theorem Cln.hdr {s : List UInt8} {a p : Nat} (h : Cln s a) (h1 : a ≤ p) (h2 : p < 8) : hdrL s p = false := by
  unfold hdrL; rw [h p h1 h2]; rfl
theorem RecAt.below {s : List UInt8} {p m a : Nat} {r : List UInt8} (h : RecAt s p m r) (hc : Cln s a) (hp : p < a) : p + m ≤ a := by
  rcases Nat.lt_or_ge a (p + m) with hlt | hge
  · exfalso
    have hle := h.le
    have hg := h.go (a - p - 1) (by omega)
    unfold goesL at hg
    rw [show p + 1 + (a - p - 1) = a by omega, hc a (Nat.le_refl _) (by omega)] at hg
    exact absurd hg (by decide)
  · exact hge
/-- What changes behind the last record's page changes no record. -/
theorem keep_recs {s s' : List UInt8} {a : Nat} (hg : Good s) (hc : Cln s a) (h1 : 1 ≤ a) (h8 : a ≤ 8) (ha : Agr s s' (64 * a)) :
    (∀ p, 1 ≤ p → p < a → hdrL s' p = hdrL s p ∧ (hdrL s p = true → recL s' p = recL s p)) ∧ recN s' (a - 1) 1 = recN s 7 1 := by
  have hh : ∀ p, 1 ≤ p → p < a → hdrL s' p = hdrL s p ∧ (hdrL s p = true → recL s' p = recL s p) := fun p hp1 hp2 => ⟨ha.hdr hp2, fun h => by
    have hr := hg p hp1 (by omega) h
    exact ha.rec hr ((recL_at hr).below hc hp2)⟩
  refine ⟨hh, ?_⟩
  rw [show 7 = (a - 1) + (8 - a) by omega, recN_add, recN_none s (8 - a) (1 + (a - 1)) (fun i hi => hc.hdr (by omega) (by omega)), List.append_nil]
  exact recN_congr _ _ fun i hi => hh (1 + i) (by omega) (by omega)
/-- .. where no head comes. -/
theorem torn_recs {s s' : List UInt8} {a : Nat} (hg : Good s) (hc : Cln s a) (h1 : 1 ≤ a) (h8 : a ≤ 8) (ha : Agr s s' (64 * a)) (hn : ∀ p, a ≤ p → p < 8 → hdrL s' p = false) : Good s' ∧ recN s' 7 1 = recN s 7 1 := by
  obtain ⟨h, e⟩ := keep_recs hg hc h1 h8 ha
  refine ⟨fun p hp1 hp2 hh => ?_, ?_⟩
  · rcases Nat.lt_or_ge p a with hlt | hge
    · obtain ⟨e1, e2⟩ := h p hp1 hlt
      rw [e1] at hh
      rw [e2 hh]; exact hg p hp1 hp2 hh
    · rw [hn p hge hp2] at hh; exact absurd hh (by decide)
  · rw [show 7 = (a - 1) + (8 - a) by omega, recN_add, recN_none s' (8 - a) (1 + (a - 1)) (fun i hi => hn _ (by omega) (by omega)), List.append_nil, e]
    congr 1; omega
/-- .. where a record comes. -/
theorem new_rec {s s' : List UInt8} {a m : Nat} {r : List UInt8} (hg : Good s) (hc : Cln s a) (h1 : 1 ≤ a) (h8 : a < 8) (ha : Agr s s' (64 * a)) (hr : RecAt s' a m r) (hn : ∀ p, a + m ≤ p → p < 8 → hdrL s' p = false) : Good s' ∧ recN s' 7 1 = recN s 7 1 ++ [r] := by
  obtain ⟨h, e⟩ := keep_recs hg hc h1 (by omega) ha
  have hz : ∀ p, a < p → p < 8 → hdrL s' p = false := fun p hp1 hp2 => by
    rcases Nat.lt_or_ge p (a + m) with hlt | hge
    · have := goes_hdr (hr.go (p - a - 1) (by omega))
      rwa [show a + 1 + (p - a - 1) = p by omega] at this
    · exact hn p hge hp2
  refine ⟨fun p hp1 hp2 hh => ?_, ?_⟩
  · rcases Nat.lt_trichotomy p a with hlt | rfl | hgt
    · obtain ⟨e1, e2⟩ := h p hp1 hlt
      rw [e1] at hh
      rw [e2 hh]; exact hg p hp1 hp2 hh
    · rw [hr.eq]; exact hr.m0
    · rw [hz p hgt hp2] at hh; exact absurd hh (by decide)
  · have e7 : recN s' 7 1 = recN s' ((a - 1) + ((8 - a - 1) + 1)) 1 := by congr 1; omega
    rw [e7, recN_add, recN, show 1 + (a - 1) = a by omega, hr.hdr, if_pos rfl, hr.eq, recN_none s' (8 - a - 1) (a + 1) (fun i hi => hz _ (by omega) (by omega)), e]
/-- A record's length, out of its pages. -/
theorem pgs_pos {n : Nat} (h : n ≤ 400) : 1 ≤ pgs n ∧ pgs n ≤ 7 := by unfold pgs; split; omega; split <;> omega
end Go.Proofs.YtjednaendedpdaaGreat
namespace Go.Proofs.YtjednaendedpdaaGreat
set_option maxRecDepth 100000
set_option linter.unusedVariables false
open Go Go.RowKit

theorem bit1 (o c m : UInt8) : (o &&& (c ||| m)) &&& ~~~o = 0 := by
  apply UInt8.toBitVec_inj.1; apply BitVec.eq_of_getElem_eq; intro i hi
  simp only [UInt8.toBitVec_and, UInt8.toBitVec_or, UInt8.toBitVec_not, BitVec.getElem_and, BitVec.getElem_or, BitVec.getElem_not]
  cases o.toBitVec[i] <;> simp
theorem bit2 (o c m : UInt8) : (o &&& c) &&& ~~~(o &&& (c ||| m)) = 0 := by
  apply UInt8.toBitVec_inj.1; apply BitVec.eq_of_getElem_eq; intro i hi
  simp only [UInt8.toBitVec_and, UInt8.toBitVec_or, UInt8.toBitVec_not, BitVec.getElem_and, BitVec.getElem_or, BitVec.getElem_not]
  cases o.toBitVec[i] <;> cases c.toBitVec[i] <;> simp
theorem bit3 (o m : UInt8) : o &&& ~~~(o ||| m) = 0 := by
  apply UInt8.toBitVec_inj.1; apply BitVec.eq_of_getElem_eq; intro i hi
  simp only [UInt8.toBitVec_and, UInt8.toBitVec_or, UInt8.toBitVec_not, BitVec.getElem_and, BitVec.getElem_or, BitVec.getElem_not]
  cases o.toBitVec[i] <;> simp
theorem bit4 (x : UInt8) : x &&& ~~~255 = 0 := by
  have : (~~~255 : UInt8) = 0 := by decide
  rw [this]; simp
theorem bit5 (o c : UInt8) : (o &&& c) &&& ~~~o = 0 := by
  apply UInt8.toBitVec_inj.1; apply BitVec.eq_of_getElem_eq; intro i hi
  simp only [UInt8.toBitVec_and, UInt8.toBitVec_not, BitVec.getElem_and, BitVec.getElem_not]
  cases o.toBitVec[i] <;> simp
theorem bit6 (o : UInt8) : o &&& ~~~o = 0 := by
  apply UInt8.toBitVec_inj.1; apply BitVec.eq_of_getElem_eq; intro i hi
  simp only [UInt8.toBitVec_and, UInt8.toBitVec_not, BitVec.getElem_and, BitVec.getElem_not]
  cases o.toBitVec[i] <;> simp
theorem andNot_u8 (a b : UInt8) : bits .andNot .u8 (a.toNat : Int) (b.toNat : Int) = ((a &&& ~~~b).toNat : Int) := by
  rw [u8_andNot_nat _ _ a.toNat_lt b.toNat_lt, UInt8.toNat_and]
  congr 2
  have : (~~~b).toNat = 255 - b.toNat := by
    rw [← UInt8.toNat_toBitVec, UInt8.toBitVec_not, BitVec.toNat_not]; rfl
  rw [this]

/-- Behind a torn step: each byte as it was, or as it would be, but what lies between, all of one byte (of one page). -/
def Tore (er : Bool) (was now all : List UInt8) : Prop :=
  ∃ K : Nat, ∀ (i : Nat) (o n a : UInt8), was[i]? = some o → now[i]? = some n → all[i]? = some a →
    n = o ∨ n = a ∨ ((if er then i / 64 else i) = K ∧ (if er then o &&& ~~~n = 0 ∧ n &&& ~~~a = 0 else n &&& ~~~o = 0 ∧ a &&& ~~~n = 0))

theorem tore_prog (b : List UInt8) (A : Nat) (l : List UInt8) (keep k' : Int) (mask m' : UInt8) :
    Tore false b (progBytes b A l true keep mask) (progBytes b A l false k' m') := by
  refine ⟨A + keep.toNat, fun i o n a ho hn ha => ?_⟩
  rw [progBytes_at, ho, Option.map_some] at hn ha
  cases hn; cases ha
  by_cases hA : A ≤ i
  · rw [if_pos hA, if_pos hA]
    cases hl : l[i - A]? with
    | none => left; rfl
    | some c =>
      simp only [progByte, true_or, if_true]
      by_cases h1 : ((i - A : Nat) : Int) < keep
      · right; left; rw [if_pos (Or.inr h1)]
      · rw [if_neg (by simp; omega)]
        by_cases h2 : ((i - A : Nat) : Int) = keep
        · rw [if_pos h2]
          right; right
          refine ⟨by simp; omega, ?_⟩
          rw [if_neg (by decide)]
          exact ⟨bit1 o c mask, bit2 o c mask⟩
        · left; rw [if_neg h2]
  · left; rw [if_neg hA]
theorem tore_erase (b : List UInt8) (K : Nat) (keep k' : Int) (mask m' : UInt8) :
    Tore true b (eraseUpto b (512 * K) 512 true keep mask) (eraseUpto b (512 * K) 512 false k' m') := by
  refine ⟨8 * K + keep.toNat, fun i o n a ho hn ha => ?_⟩
  rw [eraseUpto_at, ho, Option.map_some] at hn ha
  cases hn; cases ha
  by_cases hA : 512 * K ≤ i ∧ i < 512 * K + 512
  · rw [if_pos hA, if_pos hA]
    simp only [eraseByte, true_or, if_true]
    by_cases h1 : (((i - 512 * K) / 64 : Nat) : Int) < keep
    · right; left; rw [if_pos (Or.inr h1)]
    · rw [if_neg (by simp; omega)]
      by_cases h2 : (((i - 512 * K) / 64 : Nat) : Int) = keep
      · rw [if_pos h2]
        right; right
        exact ⟨by show i / 64 = _; omega, bit3 o mask, bit4 _⟩
      · left; rw [if_neg h2]
  · left; rw [if_neg hA]

/-- The next step is torn. -/
def FS.armed1 (s : FS) (keep : Int) (mask : UInt8) : FS := { s with armed := 1, keep := max 0 keep, mask := mask }
theorem FS.arm_one {s : FS} (h : s.Still) (keep : Int) (mask : UInt8) : s.arm 1 keep mask = (s.armed1 keep mask, 0) := by
  unfold FS.arm
  rw [if_neg (by rw [h.dead]; decide), if_neg (by decide)]; rfl

/-- What a call does to a flash of which the next step is torn (q), and to one of which none is (r). -/
structure TornCall (er : Bool) (s0 : FS) (q r : FS × Int) : Prop where
  none : (r.2 ≠ 0 ∨ r.1.steps = 0) → q.2 = r.2 ∧ q.1.dead = false ∧ q.1.b = s0.b
  some : r.2 = 0 → r.1.steps ≠ 0 → q.2 = 2 ∧ q.1.dead = true ∧ Tore er s0.b q.1.b r.1.b
  l1 : q.1.b.length = s0.b.length
  l2 : r.1.b.length = s0.b.length

theorem torn_prog {s : FS} (h : s.Still) (hs : s.steps = 0) (keep : Int) (mask : UInt8) (at_ : Int) (l : List UInt8) :
    TornCall false s ((s.armed1 keep mask).program at_ l) (s.program at_ l) := by
  have hd : (s.armed1 keep mask).dead = false := h.dead
  have hb : (s.armed1 keep mask).b = s.b := rfl
  by_cases c1 : onB s.b.length at_ l.length = false
  · have e1 : s.program at_ l = (s, 111) := by unfold FS.program; rw [if_neg (by rw [h.dead]; decide), if_pos c1]
    have e2 : (s.armed1 keep mask).program at_ l = (s.armed1 keep mask, 111) := by unfold FS.program; rw [if_neg (by rw [hd]; decide), hb, if_pos c1]
    rw [e1, e2]
    exact ⟨fun _ => ⟨rfl, h.dead, rfl⟩, fun h0 => absurd (show (111:Int) = 0 from h0) (by decide), rfl, rfl⟩
  · by_cases c2 : l = []
    · have e1 : s.program at_ l = (s, 0) := by unfold FS.program; rw [if_neg (by rw [h.dead]; decide), if_neg c1, if_pos c2]
      have e2 : (s.armed1 keep mask).program at_ l = (s.armed1 keep mask, 0) := by unfold FS.program; rw [if_neg (by rw [hd]; decide), hb, if_neg c1, if_pos c2]
      rw [e1, e2]
      exact ⟨fun _ => ⟨rfl, h.dead, rfl⟩, fun _ h0 => absurd hs h0, rfl, rfl⟩
    · by_cases c3 : at_ / 64 ≠ (at_ + l.length - 1) / 64
      · have e1 : s.program at_ l = (s, 112) := by unfold FS.program; rw [if_neg (by rw [h.dead]; decide), if_neg c1, if_neg c2, if_pos c3]
        have e2 : (s.armed1 keep mask).program at_ l = (s.armed1 keep mask, 112) := by unfold FS.program; rw [if_neg (by rw [hd]; decide), hb, if_neg c1, if_neg c2, if_pos c3]
        rw [e1, e2]
        exact ⟨fun _ => ⟨rfl, h.dead, rfl⟩, fun h0 => absurd (show (112:Int) = 0 from h0) (by decide), rfl, rfl⟩
      · have k := h.step
        have hg : (s.armed1 keep mask).goes = true := rfl
        have ht : toldI false = 0 := by unfold toldI; rfl
        have ht2 : toldI true = 2 := by unfold toldI; rfl
        have hst : s.step.steps = 1 := by simp only [FS.step, hs]; decide +kernel
        have e1 : s.program at_ l = ({ s.step with b := progBytes s.b at_.toNat l false s.keep s.mask }, 0) := by
          unfold FS.program; rw [if_neg (by rw [h.dead]; decide), if_neg c1, if_neg c2, if_neg c3, k.2, ht]
        have e2 : (s.armed1 keep mask).program at_ l = ({ (s.armed1 keep mask).step with b := progBytes s.b at_.toNat l true (max 0 keep) mask }, 2) := by
          unfold FS.program; rw [if_neg (by rw [hd]; decide), hb, if_neg c1, if_neg c2, if_neg c3, hg, ht2]; rfl
        rw [e1, e2]
        refine ⟨fun h0 => ?_, fun _ _ => ⟨rfl, rfl, ?_⟩, ?_, ?_⟩
        · exfalso
          rcases h0 with h0 | h0
          · exact h0 rfl
          · have h0 : s.step.steps = 0 := h0
            rw [hst] at h0; cases h0
        · exact tore_prog _ _ _ _ _ _ _
        · exact progBytes_length _ _ _ _ _ _
        · exact progBytes_length _ _ _ _ _ _
theorem torn_erase {s : FS} (h : s.Still) (hs : s.steps = 0) (keep : Int) (mask : UInt8) (at_ : Int) :
    TornCall true s ((s.armed1 keep mask).erase at_) (s.erase at_) := by
  have hd : (s.armed1 keep mask).dead = false := h.dead
  have hb : (s.armed1 keep mask).b = s.b := rfl
  have hn : (s.armed1 keep mask).n = s.n := rfl
  by_cases c1 : blkB s.n.length at_ = false
  · have e1 : s.erase at_ = (s, 111) := by unfold FS.erase; rw [if_neg (by rw [h.dead]; decide), if_pos c1]
    have e2 : (s.armed1 keep mask).erase at_ = (s.armed1 keep mask, 111) := by unfold FS.erase; rw [if_neg (by rw [hd]; decide), hn, if_pos c1]
    rw [e1, e2]
    exact ⟨fun _ => ⟨rfl, h.dead, rfl⟩, fun h0 => absurd (show (111:Int) = 0 from h0) (by decide), rfl, rfl⟩
  · have k := h.step
    have hg : (s.armed1 keep mask).goes = true := rfl
    have ht : toldI false = 0 := by unfold toldI; rfl
    have ht2 : toldI true = 2 := by unfold toldI; rfl
    have hst : s.step.steps = 1 := by simp only [FS.step, hs]; decide +kernel
    have e1 : s.erase at_ = ({ s.step with n := s.bump at_.toNat, b := eraseUpto s.b (512 * at_.toNat) 512 false s.keep s.mask }, 0) := by
      unfold FS.erase; rw [if_neg (by rw [h.dead]; decide), if_neg c1, k.2, ht]
    have e2 : (s.armed1 keep mask).erase at_ = ({ (s.armed1 keep mask).step with n := (s.armed1 keep mask).bump at_.toNat, b := eraseUpto s.b (512 * at_.toNat) 512 true (max 0 keep) mask }, 2) := by
      unfold FS.erase; rw [if_neg (by rw [hd]; decide), hn, if_neg c1, hg, ht2]; rfl
    rw [e1, e2]
    refine ⟨fun h0 => ?_, fun _ _ => ⟨rfl, rfl, ?_⟩, ?_, ?_⟩
    · exfalso
      rcases h0 with h0 | h0
      · exact h0 rfl
      · have h0 : s.step.steps = 0 := h0
        rw [hst] at h0; cases h0
    · exact tore_erase _ _ _ _ _ _
    · exact eraseUpto_length _ _ _ _ _ _
    · exact eraseUpto_length _ _ _ _ _ _
/-- The same of strings. -/
structure Tear3 (er : Bool) (K : Nat) (was now all : ByteArray) : Prop where
  z1 : now.size = was.size
  z2 : all.size = was.size
  at_ : ∀ (i : Nat) (h1 : i < was.size) (h2 : i < now.size) (h3 : i < all.size), now[i] = was[i] ∨ now[i] = all[i] ∨
    ((if er then i / 64 else i) = K ∧ (if er then was[i] &&& ~~~now[i] = 0 ∧ now[i] &&& ~~~all[i] = 0 else now[i] &&& ~~~was[i] = 0 ∧ all[i] &&& ~~~now[i] = 0))
theorem tear3 {er : Bool} {a b c : List UInt8} (h : Tore er a b c) (h1 : b.length = a.length) (h2 : c.length = a.length) : ∃ K, Tear3 er K ⟨a.toArray⟩ ⟨b.toArray⟩ ⟨c.toArray⟩ := by
  obtain ⟨K, h⟩ := h
  refine ⟨K, by show b.toArray.size = a.toArray.size; simpa using h1, by show c.toArray.size = a.toArray.size; simpa using h2, fun i g1 g2 g3 => ?_⟩
  have g1 : i < a.length := by have : i < a.toArray.size := g1; simpa using this
  have g2 : i < b.length := by have : i < b.toArray.size := g2; simpa using this
  have g3 : i < c.length := by have : i < c.toArray.size := g3; simpa using this
  exact h i a[i] b[i] c[i] (List.getElem?_eq_getElem _) (List.getElem?_eq_getElem _) (List.getElem?_eq_getElem _)
end Go.Proofs.YtjednaendedpdaaGreat
namespace Go.Proofs.YtjednaendedpdaaGreat
set_option maxRecDepth 100000
set_option linter.unusedVariables false
open Go Go.RowKit

/-- Outside of [f, t) no bit is set, within none is cleared. -/
structure Bits (was now : List UInt8) (f t : Nat) : Prop where
  len : now.length = was.length
  out : ∀ (k : Nat) (o n : UInt8), was[k]? = some o → now[k]? = some n → ¬ (f ≤ k ∧ k < t) → n &&& ~~~o = 0
  in_ : ∀ (k : Nat) (o n : UInt8), was[k]? = some o → now[k]? = some n → f ≤ k ∧ k < t → o &&& ~~~n = 0
theorem Bits.same (b : List UInt8) : Bits b b 0 0 :=
  ⟨rfl, fun k o n h1 h2 _ => by rw [h1] at h2; cases h2; exact bit6 o, fun k o n _ _ h => by omega⟩
theorem Bits.prog (b : List UInt8) (A : Nat) (l : List UInt8) (g : Bool) (keep : Int) (mask : UInt8) : Bits b (progBytes b A l g keep mask) 0 0 := by
  refine ⟨progBytes_length _ _ _ _ _ _, fun k o n h1 h2 _ => ?_, fun k o n _ _ h => by omega⟩
  rw [progBytes_at, h1, Option.map_some] at h2
  cases h2
  split
  · split
    · simp only [progByte]
      split
      · exact bit5 _ _
      · split
        · exact bit1 _ _ _
        · exact bit6 _
    · exact bit6 _
  · exact bit6 _
theorem Bits.erase (b : List UInt8) (K : Nat) (g : Bool) (keep : Int) (mask : UInt8) : Bits b (eraseUpto b (512 * K) 512 g keep mask) (512 * K) (512 * K + 512) := by
  refine ⟨eraseUpto_length _ _ _ _ _ _, fun k o n h1 h2 h => ?_, fun k o n h1 h2 h => ?_⟩
  · rw [eraseUpto_at, h1, Option.map_some, if_neg h] at h2
    cases h2; exact bit6 _
  · rw [eraseUpto_at, h1, Option.map_some, if_pos h] at h2
    cases h2
    simp only [eraseByte]
    split
    · exact bit4 _
    · split
      · exact bit3 _ _
      · exact bit6 _
theorem Bits.in0 {was now : List UInt8} (K : Nat) (h : Bits was now 0 0) (he : now = was) : Bits was now (512 * K) (512 * K + 512) :=
  ⟨h.len, fun k o n h1 h2 _ => h.out k o n h1 h2 (by omega), fun k o n h1 h2 _ => by subst he; rw [h1] at h2; cases h2; exact bit6 o⟩
theorem FS.program_bits (s : FS) (at_ : Int) (l : List UInt8) : Bits s.b (s.program at_ l).1.b 0 0 := by
  unfold FS.program
  split
  · exact Bits.same _
  · split
    · exact Bits.same _
    · split
      · exact Bits.same _
      · split
        · exact Bits.same _
        · exact Bits.prog _ _ _ _ _ _
/-- Erase: either nothing was done, or it is a block's. -/
theorem FS.erase_bits (s : FS) (block : Int) :
    ((s.erase block).2 = 111 → Bits s.b (s.erase block).1.b 0 0) ∧ (¬ (0 ≤ block ∧ block < s.n.length) → Bits s.b (s.erase block).1.b 0 0) ∧
    (0 ≤ block ∧ block < s.n.length → Bits s.b (s.erase block).1.b (512 * block.toNat) (512 * block.toNat + 512)) := by
  unfold FS.erase
  by_cases hd : s.dead = true
  · rw [if_pos hd]
    exact ⟨fun _ => Bits.same _, fun _ => Bits.same _, fun _ => Bits.in0 _ (Bits.same _) rfl⟩
  · rw [if_neg hd]
    by_cases hb : blkB s.n.length block = false
    · rw [if_pos hb]
      exact ⟨fun _ => Bits.same _, fun _ => Bits.same _, fun _ => Bits.in0 _ (Bits.same _) rfl⟩
    · rw [if_neg hb]
      have hb' : 0 ≤ block ∧ block < s.n.length := by unfold blkB at hb; simpa using hb
      refine ⟨fun h => ?_, fun h => absurd hb' h, fun _ => Bits.erase _ _ _ _ _⟩
      have h : toldI s.goes = 111 := h
      unfold toldI at h
      split at h <;> cases h
theorem FS.erase_ans (s : FS) (block : Int) : (s.erase block).2 = 111 ∨ (s.erase block).2 = 2 ∨ ((s.erase block).2 = 0 ∧ 0 ≤ block ∧ block < s.n.length) := by
  unfold FS.erase
  split
  · right; left; rfl
  · split
    · left; rfl
    · rename_i hb
      have hb' : 0 ≤ block ∧ block < s.n.length := by unfold blkB at hb; simpa using hb
      show toldI _ = 111 ∨ toldI _ = 2 ∨ (toldI _ = 0 ∧ _)
      unfold toldI
      split
      · right; left; rfl
      · right; right; exact ⟨rfl, hb'⟩
theorem FS.arm_b (s : FS) (n k : Int) (m : UInt8) : (s.arm n k m).1.b = s.b := by
  unfold FS.arm
  (repeat' split) <;> rfl
/-- The same of strings. -/
theorem Bits.str {a b : List UInt8} {f t : Nat} (h : Bits a b f t) {was now : ByteArray} (h1 : was = ⟨a.toArray⟩) (h2 : now = ⟨b.toArray⟩) :
    now.size = was.size ∧ ∀ (k : Nat) (g1 : k < was.size) (g2 : k < now.size), (¬ (f ≤ k ∧ k < t) → now[k] &&& ~~~was[k] = 0) ∧ (f ≤ k ∧ k < t → was[k] &&& ~~~now[k] = 0) := by
  subst h1 h2
  refine ⟨by show b.toArray.size = a.toArray.size; simpa using h.len, fun k g1 g2 => ?_⟩
  have g1 : k < a.length := by have : k < a.toArray.size := g1; simpa using this
  have g2 : k < b.length := by have : k < b.toArray.size := g2; simpa using this
  exact ⟨h.out k a[k] b[k] (List.getElem?_eq_getElem _) (List.getElem?_eq_getElem _), h.in_ k a[k] b[k] (List.getElem?_eq_getElem _) (List.getElem?_eq_getElem _)⟩
theorem str_size {s : FS} (h : s.Ok) {x : ByteArray} (hx : x = ⟨s.b.toArray⟩) : x.size ≤ 131072 := by
  have h1 := h.len; have h2 := h.few
  rw [hx]; show s.b.toArray.size ≤ _; rw [List.size_toArray]; omega
end Go.Proofs.YtjednaendedpdaaGreat
