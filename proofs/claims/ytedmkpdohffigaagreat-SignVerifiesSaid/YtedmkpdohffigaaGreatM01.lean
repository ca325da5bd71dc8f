/- Small laws that the texts of this place share: worlds, carries, bits. Nothing of the program. Memory: what a store does to a block; worlds that differ in named blocks alone. SHA-2 on plain numbers: words, blocks, sums; a sum that goes on. SHA-2: a word turned; mixed. Rows of the call's own: made, appended to where there is room, as worlds that are known. -/
import Derived.WalkKit
import Derived.WalkLawsBesides
import Derived.WalkSpells
import Derived.Handy
import Derived.RegionTactic
import Derived.BigRegion
import Derived.Deep.QuietTactic
import Derived.BigQuiet
import Derived.StillTailTactics
import Derived.Shelf.Spec.BitsCarry
import Derived.Test.YtedmkpdohffigaaGreatRows
import Derived.Laws.BitsAllLaws
import Derived.ArgAppend
import Derived.Laws.MakeOwn
import Derived.Laws.IdiomCopy
import Derived.Deep.Upon
import Derived.OwnWalk
namespace Go.Proofs.YtedmkpdohffigaaGreat
set_option linter.unusedVariables false
open Go Go.RowKit

/-- A fact kept from the walk, behind a structure that nothing unfolds. -/
structure Box (p : Prop) : Prop where
  out : p

/-- All old cells and all old marks read as before. -/
theorem bcell {W w1 : World} (hb : Below W.heap.size W w1) : (∀ b o, b < W.heap.size → w1.cell? ⟨b, o, none⟩ = W.cell? ⟨b, o, none⟩) ∧ (∀ b o, b < W.heap.size → w1.frozen? ⟨b, o, none⟩ = W.frozen? ⟨b, o, none⟩) :=
  ⟨fun b o h => hb.cell (p := ⟨b, o, none⟩) h, fun b o h => hb.frozen (p := ⟨b, o, none⟩) h⟩

/-- Two blocks of the call's own, behind a call that kept them. -/
theorem two_new {w w1 : World} {A B : Obj} (h : Below ((w.alloc A).alloc B).heap.size ((w.alloc A).alloc B) w1) :
    w1.heap[w.heap.size]? = some A ∧ w1.heap[w.heap.size + 1]? = some B ∧ Below w.heap.size w w1 ∧ w.heap.size + 2 ≤ w1.heap.size := by
  have hz := h.size
  simp only [World.size_alloc] at hz
  refine ⟨?_, ?_, (((Below.refl _ _).alloc (Nat.le_refl _) _).alloc (by simp) _).trans (h.mono (by simp; omega)), hz⟩
  · rw [h.block w.heap.size (by simp; omega), heap_alloc_old _ _ (by simp), heap_alloc_new]
  · have := heap_alloc_new (w.alloc A) B
    rw [World.size_alloc] at this
    rw [h.block (w.heap.size + 1) (by simp), this]

/-- Limb i of a number, in words of 64 bits. -/
@[irreducible] def limb (n i : Nat) : Int := ((n / 2 ^ (64 * i) % 18446744073709551616 : Nat) : Int)
theorem limb_bd (n i : Nat) : 0 ≤ limb n i ∧ limb n i < 18446744073709551616 := by unfold limb; omega

theorem int_congr {k : IntKind} {a b : Int} (h : a = b) : Value.int k a = Value.int k b := by rw [h]
theorem agg4_congr {k : IntKind} {a b c d a' b' c' d' : Int} (h0 : a = a') (h1 : b = b') (h2 : c = c') (h3 : d = d') :
    Value.agg #[.int k a, .int k b, .int k c, .int k d] = Value.agg #[.int k a', .int k b', .int k c', .int k d'] := by rw [h0, h1, h2, h3]

/-- A sum with a carry, of words. -/
theorem add64_ex (P : Program) (f : FuncId) (fn : Func) (hf : P.funcs[f]? = some fn) (hname : (fn.name == "runtime.NumGoroutine") = false)
    (hb : fn.body.isNone = true) (hn : Extern.findNext fn = none) (he : Extern.find fn = some add64Entry) (x y c : Int)
    (hx : 0 ≤ x ∧ x < 18446744073709551616) (hy : 0 ≤ y ∧ y < 18446744073709551616) (hc : 0 ≤ c ∧ c ≤ 1) :
    ∃ s o : Int, (∀ w, (callFunc f #[.int .u64 x, .int .u64 y, .int .u64 c]).run P w = .ok (.value (.tuple #[.int .u64 s, .int .u64 o])) w) ∧
      (0 ≤ s ∧ s < 18446744073709551616) ∧ (0 ≤ o ∧ o ≤ 1) ∧ s + 18446744073709551616 * o = x + y + c := by
  refine ⟨(x + y + c) % 18446744073709551616, (x + y + c) / 18446744073709551616, fun w => ?_, by omega, by omega, by omega⟩
  rw [run_callFunc_extern hf hname hb hn he, run_add64 x y c (by omega) (by omega) (by omega) (by omega)]
  rfl

/-- A difference with a borrow, of words. -/
theorem sub64_ex (P : Program) (f : FuncId) (fn : Func) (hf : P.funcs[f]? = some fn) (hname : (fn.name == "runtime.NumGoroutine") = false)
    (hb : fn.body.isNone = true) (hn : Extern.findNext fn = none) (he : Extern.find fn = some sub64Entry) (x y c : Int)
    (hx : 0 ≤ x ∧ x < 18446744073709551616) (hy : 0 ≤ y ∧ y < 18446744073709551616) (hc : 0 ≤ c ∧ c ≤ 1) :
    ∃ s o : Int, (∀ w, (callFunc f #[.int .u64 x, .int .u64 y, .int .u64 c]).run P w = .ok (.value (.tuple #[.int .u64 s, .int .u64 o])) w) ∧
      (0 ≤ s ∧ s < 18446744073709551616) ∧ (0 ≤ o ∧ o ≤ 1) ∧ s = x - y - c + 18446744073709551616 * o := by
  obtain ⟨x, rfl⟩ := Int.eq_ofNat_of_zero_le hx.1
  obtain ⟨y, rfl⟩ := Int.eq_ofNat_of_zero_le hy.1
  obtain ⟨c, rfl⟩ := Int.eq_ofNat_of_zero_le hc.1
  refine ⟨_, _, fun w => by rw [run_callFunc_extern hf hname hb hn he, run_sub64 x y c (by omega)]; rfl, by omega, ?_, ?_⟩
  · split <;> omega
  · split <;> omega

/-- Twice a word, and a bit. -/
theorem or_bit (a b : Int) (ha : 0 ≤ a ∧ a < 18446744073709551616) (hb : 0 ≤ b ∧ b ≤ 1) :
    bits .or .u64 (IntKind.u64.wrap (a * 2)) b = a * 2 % 18446744073709551616 + b := by
  obtain ⟨a, rfl⟩ := Int.eq_ofNat_of_zero_le ha.1
  obtain ⟨b, rfl⟩ := Int.eq_ofNat_of_zero_le hb.1
  rw [IntKind.wrap_u64, show ((a : Int) * 2 % 18446744073709551616) = ((a * 2 % 18446744073709551616 : Nat) : Int) from by omega,
    u64_or_nat _ _ (by omega) (by omega), nat_join 1 _ _ (by omega) (by omega)]
  omega

/-- string(b) of a row of bytes. -/
theorem run_bytes_of_row (P : Program) (w : World) (b cap : Nat) (l : List UInt8) (t src dst e : TypeId) (n : Nat) (hn : l.length = n)
    (hs : P.underlying src = some (.slice e)) (he : P.underlying e = some (.int .u8)) (hd : P.underlying dst = some .string)
    (hg : w.heap[b]? = some (.cells (l.map fun u => Value.int .u8 (u.toNat : Int)).toArray t (0, 0))) :
    (convert src dst (.slice (some ⟨b, 0, none⟩) n cap)).run P w = .ok (.string ⟨l.toArray⟩) w := by
  subst hn
  rw [run_convert_bytes_string w src dst e _ _ _ hs he hd]
  have h := run_loadCells_list (P := P) (w := w) ⟨b, 0, none⟩ ((l.map fun u => (u.toNat : Int)).map (Value.int .u8)) (by
    intro j v hj
    have : (⟨b, 0, none⟩ : Addr).add j = ⟨b, j, none⟩ := by unfold Addr.add; split <;> simp_all
    rw [this, cell_of_row w b j _ t (0, 0) hg]
    simpa [List.map_map, Function.comp_def] using hj)
  rw [List.length_map, List.length_map] at h
  rw [run_bytesToString w _ _ _ _ h]
  have : ∀ (l : List UInt8) (acc : ByteArray), (l.map fun u => (u.toNat : Int)).foldl (fun r n => r.push (UInt8.ofNat n.toNat)) acc = ⟨(acc.data.toList ++ l).toArray⟩ := by
    intro l
    induction l with
    | nil => intro acc; simp
    | cons c l ih => intro acc; simp only [List.map_cons, List.foldl_cons]; rw [ih]; simp [ByteArray.push]
  rw [this]
  rfl

end Go.Proofs.YtedmkpdohffigaaGreat
namespace Go.Proofs.YtedmkpdohffigaaGreat
set_option linter.unusedVariables false
open Go Go.RowKit

/-- A block with one cell set. -/
def Obj.put (o : Obj) (i : Nat) (v : Value) : Obj :=
  match o with
  | .cells c e fr => .cells (c.setIfInBounds i v) e fr
  | o => o
theorem heap_set (w : World) (b i : Nat) (v : Value) (k : Nat) : (w.setCell ⟨b, i, none⟩ v).heap[k]? = if k = b then (w.heap[k]?).map (Obj.put · i v) else w.heap[k]? := by
  simp only [World.setCell, Array.getElem?_modify]
  by_cases h : b = k
  · subst h
    simp only [if_true]
    cases w.heap[b]? with
    | none => rfl
    | some o => cases o <;> rfl
  · rw [if_neg h, if_neg (fun e => h e.symm)]

/-- Of what was there, nothing but the blocks of S has turned. -/
structure Upd (S : List Nat) (w w' : World) : Prop where
  os : w'.os = w.os
  tape : w'.tape = w.tape
  output : w'.output = w.output
  size : w.heap.size ≤ w'.heap.size
  block : ∀ k, k < w.heap.size → k ∉ S → w'.heap[k]? = w.heap[k]?
theorem Upd.refl (S : List Nat) (w : World) : Upd S w w := ⟨rfl, rfl, rfl, Nat.le_refl _, fun _ _ _ => rfl⟩
theorem Upd.trans {S : List Nat} {a b c : World} (h : Upd S a b) (k : Upd S b c) : Upd S a c :=
  ⟨k.os.trans h.os, k.tape.trans h.tape, k.output.trans h.output, Nat.le_trans h.size k.size, fun i hi hn => (k.block i (Nat.lt_of_lt_of_le hi h.size) hn).trans (h.block i hi hn)⟩
theorem Upd.mono {S T : List Nat} {a b : World} (h : Upd S a b) (hs : ∀ k, k ∈ S → k ∈ T) : Upd T a b :=
  ⟨h.os, h.tape, h.output, h.size, fun i hi hn => h.block i hi (fun hm => hn (hs i hm))⟩
theorem Upd.setCell {S : List Nat} {a b : World} (h : Upd S a b) {p : Addr} (hp : p.block ∈ S ∨ a.heap.size ≤ p.block) (v : Value) : Upd S a (b.setCell p v) :=
  ⟨h.os, h.tape, h.output, by simpa using h.size, fun i hi hn => (Below.heap_setCell _ _ _ _ (fun e => by
    subst e
    rcases hp with hp | hp
    · exact hn hp
    · omega)).trans (h.block i hi hn)⟩
theorem Upd.alloc {S : List Nat} {a b : World} (h : Upd S a b) (o : Obj) : Upd S a (b.alloc o) :=
  ⟨h.os, h.tape, h.output, by have := h.size; simp; omega, fun i hi hn => (Below.heap_alloc _ _ _ (Nat.lt_of_lt_of_le hi h.size)).trans (h.block i hi hn)⟩
theorem Upd.drew {S : List Nat} {a b : World} (h : Upd S a b) : Upd S a b.drew := ⟨h.os, h.tape, h.output, h.size, h.block⟩
theorem Upd.drewN {S : List Nat} {a b : World} (h : Upd S a b) (n : Nat) : Upd S a (b.drewN n) := h.trans ⟨rfl, rfl, rfl, Nat.le_refl _, fun _ _ _ => rfl⟩
theorem Upd.of_below {S : List Nat} {a b : World} (h : Below a.heap.size a b) : Upd S a b := ⟨h.os, h.tape, h.output, h.size, fun i hi _ => h.block i hi⟩
/-- Blocks from B on alone have turned. -/
theorem Upd.below {S : List Nat} {B : Nat} {a b c : World} (h : Below B a b) (k : Upd S b c) (hS : ∀ i, i ∈ S → B ≤ i) (hB : B ≤ b.heap.size) : Below B a c :=
  ⟨k.os.trans h.os, k.tape.trans h.tape, k.output.trans h.output, Nat.le_trans h.size k.size, fun i hi => (k.block i (by omega) (fun hm => by have := hS i hm; omega)).trans (h.block i hi)⟩
theorem Upd.trans2 {S : List Nat} {a b c : World} {k : Nat} (h : Upd S a b) (u : Upd [k] b c) (hk : k ∈ S ∨ a.heap.size ≤ k) : Upd S a c :=
  ⟨u.os.trans h.os, u.tape.trans h.tape, u.output.trans h.output, Nat.le_trans h.size u.size, fun i hi hn => (u.block i (Nat.lt_of_lt_of_le hi h.size) (fun hm => by
    rw [List.mem_singleton] at hm; subst hm
    rcases hk with hk | hk
    · exact hn hk
    · omega)).trans (h.block i hi hn)⟩
end Go.Proofs.YtedmkpdohffigaaGreat
namespace Go.Proofs.YtedmkpdohffigaaGreat.Sha
set_option linter.unusedVariables false

/-- A word of W bits turned to the right. -/
def rotr (W x n : Nat) : Nat := x / 2 ^ n ||| x * 2 ^ (W - n) % 2 ^ W
/-- Three numbers of bits. -/
structure T3 where
  a : Nat
  b : Nat
  c : Nat
structure Sh where
  a : T3
  b : T3
  c : T3
  d : T3
def big (W x : Nat) (n : T3) : Nat := rotr W x n.a ^^^ rotr W x n.b ^^^ rotr W x n.c
def sml (W x : Nat) (n : T3) : Nat := rotr W x n.a ^^^ rotr W x n.b ^^^ x / 2 ^ n.c
def nextW (W : Nat) (s : Sh) (l : List Nat) : Nat :=
  (sml W (l.getD (l.length - 2) 0) s.d + l.getD (l.length - 7) 0 + sml W (l.getD (l.length - 15) 0) s.c + l.getD (l.length - 16) 0) % 2 ^ W
/-- n words more. -/
def sched (W : Nat) (s : Sh) : Nat → List Nat → List Nat
  | 0, l => l
  | n + 1, l => sched W s n (l ++ [nextW W s l])
/-- Eight words. -/
structure V8 where
  a : Nat
  b : Nat
  c : Nat
  d : Nat
  e : Nat
  f : Nat
  g : Nat
  h : Nat
def V8.list (v : V8) : List Nat := [v.a, v.b, v.c, v.d, v.e, v.f, v.g, v.h]
def one (W : Nat) (s : Sh) (v : V8) (k x : Nat) : Nat := (v.h + big W v.e s.b + ((v.e &&& v.f) ^^^ ((2 ^ W - 1 - v.e) &&& v.g)) + k + x) % 2 ^ W
def two (W : Nat) (s : Sh) (v : V8) : Nat := (big W v.a s.a + ((v.a &&& v.b) ^^^ (v.a &&& v.c) ^^^ (v.b &&& v.c))) % 2 ^ W
def round (W : Nat) (s : Sh) (v : V8) (k x : Nat) : V8 :=
  ⟨(one W s v k x + two W s v) % 2 ^ W, v.a, v.b, v.c, (v.d + one W s v k x) % 2 ^ W, v.e, v.f, v.g⟩
def rnds (W : Nat) (s : Sh) : List Nat → List Nat → V8 → V8
  | k :: ks, x :: xs, v => rnds W s ks xs (round W s v k x)
  | _, _, v => v
def plus (W : Nat) (v u : V8) : V8 :=
  ⟨(v.a + u.a) % 2 ^ W, (v.b + u.b) % 2 ^ W, (v.c + u.c) % 2 ^ W, (v.d + u.d) % 2 ^ W, (v.e + u.e) % 2 ^ W, (v.f + u.f) % 2 ^ W, (v.g + u.g) % 2 ^ W, (v.h + u.h) % 2 ^ W⟩
/-- A block's words. -/
def blk (W : Nat) (s : Sh) (ks : List Nat) (v : V8) (l : List Nat) : V8 :=
  plus W v (rnds W s ks (sched W s (ks.length - l.length) l) v)
/-- The number of bytes, the highest first. -/
def be (l : List UInt8) : Nat := l.foldl (fun x b => 256 * x + b.toNat) 0
/-- n bytes at a time, as numbers. -/
def wordsOf (n : Nat) : Nat → List UInt8 → List Nat
  | 0, _ => []
  | c + 1, l => be (l.take n) :: wordsOf n c (l.drop n)
/-- n bytes of a number, the highest first. -/
def bytesOf (x : Nat) : Nat → List UInt8
  | 0 => []
  | n + 1 => UInt8.ofNat (x / 256 ^ n) :: bytesOf x n

/-- A kind: bits of a word, shifts, constants, the words with which a sum begins. -/
structure Kd where
  W : Nat
  s : Sh
  ks : List Nat
  h : V8
def Kd.B (k : Kd) : Nat := 2 * k.W
def Kd.step (k : Kd) (v : V8) (l : List UInt8) : V8 := blk k.W k.s k.ks v (wordsOf (k.W / 8) 16 l)

/-- n blocks. -/
def run (B : Nat) (f : V8 → List UInt8 → V8) : Nat → V8 → List UInt8 → V8 × List UInt8
  | 0, v, l => (v, l)
  | n + 1, v, l => run B f n (f v (l.take B)) (l.drop B)
/-- All whole blocks. -/
def blks (B : Nat) (f : V8 → List UInt8 → V8) (v : V8) (l : List UInt8) : V8 × List UInt8 := run B f (l.length / B) v l
theorem run_add (B : Nat) (f : V8 → List UInt8 → V8) (m : Nat) : ∀ n v l, run B f (n + m) v l = run B f m (run B f n v l).1 (run B f n v l).2
  | 0, v, l => by rw [Nat.zero_add]; rfl
  | n + 1, v, l => by rw [show n + 1 + m = n + m + 1 from by omega, run, run_add B f m n]; rfl
theorem run_len (B : Nat) (f : V8 → List UInt8 → V8) : ∀ n v l, n * B ≤ l.length → (run B f n v l).2.length = l.length - n * B
  | 0, v, l, _ => by simp [run]
  | n + 1, v, l, h => by
    rw [Nat.add_mul, Nat.one_mul] at h
    rw [run, run_len B f n _ _ (by rw [List.length_drop]; omega), List.length_drop, Nat.add_mul, Nat.one_mul]; omega
theorem run_append (B : Nat) (f : V8 → List UInt8 → V8) (y : List UInt8) : ∀ n v l, n * B ≤ l.length → run B f n v (l ++ y) = ((run B f n v l).1, (run B f n v l).2 ++ y)
  | 0, v, l, _ => rfl
  | n + 1, v, l, h => by
    rw [Nat.add_mul, Nat.one_mul] at h
    rw [run, run, List.take_append_of_le_length (by omega), List.drop_append_of_le_length (by omega)]
    exact run_append B f y n _ _ (by rw [List.length_drop]; omega)
theorem blks_rest {B : Nat} (hB : 0 < B) (f : V8 → List UInt8 → V8) (v : V8) (l : List UInt8) : (blks B f v l).2.length = l.length % B := by
  unfold blks
  rw [run_len _ _ _ _ _ (Nat.div_mul_le_self _ _)]
  have := Nat.div_add_mod l.length B
  rw [Nat.mul_comm] at this; omega
/-- What is left goes ahead of what comes. -/
theorem blks_append {B : Nat} (hB : 0 < B) (f : V8 → List UInt8 → V8) (v : V8) (l y : List UInt8) :
    blks B f v (l ++ y) = blks B f (blks B f v l).1 ((blks B f v l).2 ++ y) := by
  have hr := blks_rest hB f v l
  have e : (l ++ y).length / B = l.length / B + ((blks B f v l).2 ++ y).length / B := by
    rw [List.length_append, List.length_append, hr]
    have := Nat.div_add_mod l.length B
    rw [show l.length + y.length = (l.length % B + y.length) + B * (l.length / B) from by omega, Nat.add_mul_div_left _ _ hB, Nat.add_comm]
  rw [show blks B f v (l ++ y) = run B f ((l ++ y).length / B) v (l ++ y) from rfl, e, run_add, run_append _ _ _ _ _ _ (Nat.div_mul_le_self _ _)]
  rfl

/-- What goes behind the bytes: so many zeros that the length comes last in a block. -/
def zeros (B n : Nat) : Nat := (B - B / 8 + B - (n + 1) % B) % B
def padB (B n : Nat) : List UInt8 := (128 : UInt8) :: (List.replicate (zeros B n) 0 ++ bytesOf (8 * n) (B / 8))
/-- The sum. -/
def Kd.sumV (k : Kd) (l : List UInt8) : V8 := (blks k.B k.step k.h (l ++ padB k.B l.length)).1
def Kd.sum (k : Kd) (l : List UInt8) : List UInt8 := (k.sumV l).list.flatMap fun x => bytesOf x (k.W / 8)
/-- A state that goes on: the words so far, what is left, how many bytes there were. -/
structure St where
  v : V8
  r : List UInt8
  n : Nat
def Kd.new (k : Kd) : St := ⟨k.h, [], 0⟩
def Kd.write (k : Kd) (s : St) (l : List UInt8) : St := let q := blks k.B k.step s.v (s.r ++ l); ⟨q.1, q.2, s.n + l.length⟩
def Kd.ask (k : Kd) (s : St) : List UInt8 := (blks k.B k.step s.v (s.r ++ padB k.B s.n)).1.list.flatMap fun x => bytesOf x (k.W / 8)
/-- The state of all bytes. -/
def Kd.at (k : Kd) (l : List UInt8) : St := ⟨(blks k.B k.step k.h l).1, (blks k.B k.step k.h l).2, l.length⟩
theorem Kd.at_write {k : Kd} (hB : 0 < k.B) (l y : List UInt8) : k.write (k.at l) y = k.at (l ++ y) := by
  simp only [Kd.write, Kd.at, ← blks_append hB, List.length_append]
theorem Kd.at_nil {k : Kd} : k.at [] = k.new := by
  simp only [Kd.at, Kd.new, blks, List.length_nil, Nat.zero_div]; rfl
theorem Kd.ask_at {k : Kd} (hB : 0 < k.B) (l : List UInt8) : k.ask (k.at l) = k.sum l := by
  simp only [Kd.ask, Kd.at, ← blks_append hB]; rfl

def sh256 : Sh := ⟨⟨2, 13, 22⟩, ⟨6, 11, 25⟩, ⟨7, 18, 3⟩, ⟨17, 19, 10⟩⟩
def sh512 : Sh := ⟨⟨28, 34, 39⟩, ⟨14, 18, 41⟩, ⟨1, 8, 7⟩, ⟨19, 61, 6⟩⟩
def K : List Nat := [4794697086780616226, 8158064640168781261, 13096744586834688815, 16840607885511220156, 4131703408338449720, 6480981068601479193, 10538285296894168987, 12329834152419229976, 15566598209576043074, 1334009975649890238, 2608012711638119052, 6128411473006802146, 8268148722764581231, 9286055187155687089, 11230858885718282805, 13951009754708518548, 16472876342353939154, 17275323862435702243, 1135362057144423861, 2597628984639134821, 3308224258029322869, 5365058923640841347, 6679025012923562964, 8573033837759648693, 10970295158949994411, 12119686244451234320, 12683024718118986047, 13788192230050041572, 14330467153632333762, 15395433587784984357, 489312712824947311, 1452737877330783856, 2861767655752347644, 3322285676063803686, 5560940570517711597, 5996557281743188959, 7280758554555802590, 8532644243296465576, 9350256976987008742, 10552545826968843579, 11727347734174303076, 12113106623233404929, 14000437183269869457, 14369950271660146224, 15101387698204529176, 15463397548674623760, 17586052441742319658, 1182934255886127544, 1847814050463011016, 2177327727835720531, 2830643537854262169, 3796741975233480872, 4115178125766777443, 5681478168544905931, 6601373596472566643, 7507060721942968483, 8399075790359081724, 8693463985226723168, 9568029438360202098, 10144078919501101548, 10430055236837252648, 11840083180663258601, 13761210420658862357, 14299343276471374635, 14566680578165727644, 15097957966210449927, 16922976911328602910, 17689382322260857208, 500013540394364858, 748580250866718886, 1242879168328830382, 1977374033974150939, 2944078676154940804, 3659926193048069267, 4368137639120453308, 4836135668995329356, 5532061633213252278, 6448918945643986474, 6902733635092675308, 7801388544844847127]
def H0 : Nat := 7640891576956012808
def H1 : Nat := 13503953896175478587
def H2 : Nat := 4354685564936845355
def H3 : Nat := 11912009170470909681
def H4 : Nat := 5840696475078001361
def H5 : Nat := 11170449401992604703
def H6 : Nat := 2270897969802886507
def H7 : Nat := 6620516959819538809
def k256 : Kd := ⟨32, sh256, (K.take 64).map (· / 4294967296), ⟨H0 / 4294967296, H1 / 4294967296, H2 / 4294967296, H3 / 4294967296, H4 / 4294967296, H5 / 4294967296, H6 / 4294967296, H7 / 4294967296⟩⟩
def k512 : Kd := ⟨64, sh512, K, ⟨H0, H1, H2, H3, H4, H5, H6, H7⟩⟩
/-- The document's constants: a root's first 64 bits behind the point, bit by bit, in numbers of 160 bits. -/
structure R3 where
  r : Nat
  q : Nat
  l : Nat
def M160 : Nat := 2 ^ 160
def rmore (p : Nat) (r q : Nat) : Nat := if p = 2 then (1 + r * 2) % M160 else ((1 + r * 3) % M160 + q * 3) % M160
def rstep (n p step : Nat) (s : R3) : R3 :=
  let g := if 64 ≤ step then n / 2 ^ (p * (step - 64)) % 2 ^ p else 0
  let l := (s.l * 2 ^ p + g) % M160
  let r := s.r * 2 % M160
  let q := s.q * 4 % M160
  let m := rmore p r q
  if l < m then ⟨r, q, l⟩ else ⟨(r * 1 + 1) % M160, ((q + r * 2) % M160 * 1 + 1) % M160, l - m⟩
def rloop (n p : Nat) : Nat → R3 → R3
  | 0, s => s
  | k + 1, s => rloop n p k (rstep n p k s)
def rootF (n p : Nat) : Nat := (rloop n p 67 ⟨0, 0, 0⟩).r % 2 ^ 64
def ps : List Nat := [2, 3, 5, 7, 11, 13, 17, 19, 23, 29, 31, 37, 41, 43, 47, 53, 59, 61, 67, 71, 73, 79, 83, 89, 97, 101, 103, 107, 109, 113, 127, 131, 137, 139, 149, 151, 157, 163, 167, 173, 179, 181, 191, 193, 197, 199, 211, 223, 227, 229, 233, 239, 241, 251, 257, 263, 269, 271, 277, 281, 283, 293, 307, 311, 313, 317, 331, 337, 347, 349, 353, 359, 367, 373, 379, 383, 389, 397, 401, 409]
theorem roots3 : ps.map (rootF · 3) = K := by decide +kernel
theorem roots2 : (ps.take 8).map (rootF · 2) = k512.h.list := by decide +kernel
theorem abc : (k256.sum [97, 98, 99]).take 8 = [0xba, 0x78, 0x16, 0xbf, 0x8f, 0x01, 0xcf, 0xea] := by decide +kernel
theorem nil512 : (k512.sum []).take 4 = [0xcf, 0x83, 0xe1, 0x35] := by decide +kernel
theorem abx : k256.sum [97, 98, 99] ≠ k256.sum [97, 98, 120] := by decide +kernel
end Go.Proofs.YtedmkpdohffigaaGreat.Sha
namespace Go.Proofs.YtedmkpdohffigaaGreat
set_option linter.unusedVariables false
open Go Go.RowKit Sha

theorem quiet_calls {P : Program} {f : FuncId} {args : Array Value} {w : World} {n : Nat} {v : Value}
    (h : Calls P f args (w.drewN n) fun e w' => e = .returned v ∧ w.drewN n = w') : Calls P f args (w.drewN n) fun e w'' => e = .returned v ∧ ∃ m, w'' = w.drewN m :=
  h.mono fun _ _ ⟨he, hm⟩ => ⟨he, n, hm.symm⟩
theorem rotr_lt (W x n : Nat) (hx : x < 2 ^ W) : rotr W x n < 2 ^ W :=
  Nat.or_lt_two_pow (Nat.lt_of_le_of_lt (Nat.div_le_self _ _) hx) (Nat.mod_lt _ (Nat.two_pow_pos _))
theorem big_lt (W x : Nat) (n : T3) (hx : x < 2 ^ W) : big W x n < 2 ^ W :=
  Nat.xor_lt_two_pow (Nat.xor_lt_two_pow (rotr_lt _ _ _ hx) (rotr_lt _ _ _ hx)) (rotr_lt _ _ _ hx)
theorem sml_lt (W x : Nat) (n : T3) (hx : x < 2 ^ W) : sml W x n < 2 ^ W :=
  Nat.xor_lt_two_pow (Nat.xor_lt_two_pow (rotr_lt _ _ _ hx) (rotr_lt _ _ _ hx)) (Nat.lt_of_le_of_lt (Nat.div_le_self _ _) hx)
/-- Numbers of bits that a word of W bits is turned by. -/
structure Sha.T3.Ok (W : Nat) (n : T3) : Prop where
  a : 1 ≤ n.a ∧ n.a < W
  b : 1 ≤ n.b ∧ n.b < W
  c : 1 ≤ n.c ∧ n.c < W
def t3v (n : T3) : Value := .agg #[.int .i64 n.a, .int .i64 n.b, .int .i64 n.c]
def t3o (n : T3) : Obj := .cells #[.int .i64 n.a, .int .i64 n.b, .int .i64 n.c] 98

theorem turn32_any (x n : Nat) (hx : x < 4294967296) (hn : 1 ≤ n ∧ n < 32) (w : World) :
    Calls Tryz.prog 133 #[.int .u32 x, .int .i64 n, .int .i64 32] w fun e w' => e = .returned (.int .u32 (rotr 32 x n : Nat)) ∧ ∃ k, w' = w.drewN k := by
  have h1 : IntKind.i64.wrap (32 - (n : Int)) = 32 - (n : Int) := by rw [IntKind.wrap_i64]; omega
  have h2 : (0 : Int) ≤ 32 - (n : Int) := by omega
  have h3 : (32 - (n : Int)).toNat = 32 - n := by omega
  go_enter Tryz.func133, Tryz.ntmps133
  go_wp2
  go_quiet (fail)
  go_wp2
  go_ret
  refine ⟨?_, nq, rfl⟩
  have e1 : (x : Int) / 2 ^ n = ((x / 2 ^ n : Nat) : Int) := by simp
  have e2 : (x : Int) * 2 ^ (32 - n) % 4294967296 = ((x * 2 ^ (32 - n) % 4294967296 : Nat) : Int) := by simp
  first
  | rw [e1, e2, u32_or_nat _ _ (Nat.lt_of_le_of_lt (Nat.div_le_self _ _) hx) (Nat.mod_lt _ (by decide))]
  | rw [e1, IntKind.wrap_u64, e2, u32_or_nat _ _ (Nat.lt_of_le_of_lt (Nat.div_le_self _ _) hx) (Nat.mod_lt _ (by decide))]
  rfl
theorem xor32 (a b : Nat) (ha : a < 4294967296) (hb : b < 4294967296) : bits .xor .u32 (a : Int) (b : Int) = ((a ^^^ b : Nat) : Int) := u32_xor_nat _ _ ha hb

set_option maxHeartbeats 1000000 in
/-- mix, of turns alone. -/
theorem mix32_big (x : Nat) (n : T3) (hx : x < 4294967296) (hn : n.Ok 32) (w : World) :
    Calls Tryz.prog 131 #[.int .u32 x, t3v n, .int .i64 32, .bool true] w fun e w' => e = .returned (.int .u32 (big 32 x n : Nat)) ∧ ∃ k, w' = (w.alloc (t3o n)).drewN k := by
  have ha := hn.a; have hb := hn.b; have hc := hn.c
  have r1 := rotr_lt 32 x n.a hx; have r2 := rotr_lt 32 x n.b hx; have r3 := rotr_lt 32 x n.c hx
  have q1 := xor32 _ _ r1 r2
  have r4 := Nat.xor_lt_two_pow r1 r2
  have q2 := xor32 _ _ r4 r3
  clear r1 r2 r3 r4 hn
  have hx := Box.mk hx; have ha := Box.mk ha; have hb := Box.mk hb; have hc := Box.mk hc
  unfold t3v
  go_enter Tryz.func131, Tryz.ntmps131
  go_wp2_with fail
  go_quiet (first
    | (go_at_call 133; with_reducible exact Calls.quiet_of (turn32_any x n.a hx.out ha.out _))
    | (go_at_call 133; with_reducible exact Calls.quiet_of (turn32_any x n.b hx.out hb.out _))
    | (go_at_call 133; with_reducible exact Calls.quiet_of (turn32_any x n.c hx.out hc.out _)))
  go_wp2
  go_ret
  exact ⟨rfl, nq, rfl⟩
set_option maxHeartbeats 1000000 in
/-- mix, the last one a shift. -/
theorem mix32_sml (x : Nat) (n : T3) (hx : x < 4294967296) (hn : n.Ok 32) (w : World) :
    Calls Tryz.prog 131 #[.int .u32 x, t3v n, .int .i64 32, .bool false] w fun e w' => e = .returned (.int .u32 (sml 32 x n : Nat)) ∧ ∃ k, w' = (w.alloc (t3o n)).drewN k := by
  have ha := hn.a; have hb := hn.b; have hc := hn.c
  have r1 := rotr_lt 32 x n.a hx; have r2 := rotr_lt 32 x n.b hx
  have r3 : x / 2 ^ n.c < 2 ^ 32 := Nat.lt_of_le_of_lt (Nat.div_le_self _ _) hx
  have q1 := xor32 _ _ r1 r2
  have r4 := Nat.xor_lt_two_pow r1 r2
  have q2 := xor32 _ _ r4 r3
  have e1 : (x : Int) / 2 ^ n.c = ((x / 2 ^ n.c : Nat) : Int) := by simp
  rw [← e1] at q2
  clear r1 r2 r3 r4 hn e1
  have hx := Box.mk hx; have ha := Box.mk ha; have hb := Box.mk hb
  unfold t3v
  go_enter Tryz.func131, Tryz.ntmps131
  go_wp2_with fail
  go_quiet (first
    | (go_at_call 133; with_reducible exact Calls.quiet_of (turn32_any x n.a hx.out ha.out _))
    | (go_at_call 133; with_reducible exact Calls.quiet_of (turn32_any x n.b hx.out hb.out _)))
  go_wp2
  go_ret
  exact ⟨rfl, nq, rfl⟩

theorem turn64_any (x n : Nat) (hx : x < 18446744073709551616) (hn : 1 ≤ n ∧ n < 64) (w : World) :
    Calls Tryz.prog 134 #[.int .u64 x, .int .i64 n, .int .i64 64] w fun e w' => e = .returned (.int .u64 (rotr 64 x n : Nat)) ∧ ∃ k, w' = w.drewN k := by
  have h1 : IntKind.i64.wrap (64 - (n : Int)) = 64 - (n : Int) := by rw [IntKind.wrap_i64]; omega
  have h2 : (0 : Int) ≤ 64 - (n : Int) := by omega
  have h3 : (64 - (n : Int)).toNat = 64 - n := by omega
  go_enter Tryz.func134, Tryz.ntmps134
  go_wp2
  go_quiet (fail)
  go_wp2
  go_ret
  refine ⟨?_, nq, rfl⟩
  have e1 : (x : Int) / 2 ^ n = ((x / 2 ^ n : Nat) : Int) := by simp
  have e2 : (x : Int) * 2 ^ (64 - n) % 18446744073709551616 = ((x * 2 ^ (64 - n) % 18446744073709551616 : Nat) : Int) := by simp
  first
  | rw [e1, e2, u64_or_nat _ _ (Nat.lt_of_le_of_lt (Nat.div_le_self _ _) hx) (Nat.mod_lt _ (by decide))]
  | rw [e1, IntKind.wrap_u64, e2, u64_or_nat _ _ (Nat.lt_of_le_of_lt (Nat.div_le_self _ _) hx) (Nat.mod_lt _ (by decide))]
  rfl
theorem xor64 (a b : Nat) (ha : a < 18446744073709551616) (hb : b < 18446744073709551616) : bits .xor .u64 (a : Int) (b : Int) = ((a ^^^ b : Nat) : Int) := u64_xor_nat _ _ ha hb

set_option maxHeartbeats 1000000 in
/-- mix, of turns alone. -/
theorem mix64_big (x : Nat) (n : T3) (hx : x < 18446744073709551616) (hn : n.Ok 64) (w : World) :
    Calls Tryz.prog 132 #[.int .u64 x, t3v n, .int .i64 64, .bool true] w fun e w' => e = .returned (.int .u64 (big 64 x n : Nat)) ∧ ∃ k, w' = (w.alloc (t3o n)).drewN k := by
  have ha := hn.a; have hb := hn.b; have hc := hn.c
  have r1 := rotr_lt 64 x n.a hx; have r2 := rotr_lt 64 x n.b hx; have r3 := rotr_lt 64 x n.c hx
  have q1 := xor64 _ _ r1 r2
  have r4 := Nat.xor_lt_two_pow r1 r2
  have q2 := xor64 _ _ r4 r3
  clear r1 r2 r3 r4 hn
  have hx := Box.mk hx; have ha := Box.mk ha; have hb := Box.mk hb; have hc := Box.mk hc
  unfold t3v
  go_enter Tryz.func132, Tryz.ntmps132
  go_wp2_with fail
  go_quiet (first
    | (go_at_call 134; with_reducible exact Calls.quiet_of (turn64_any x n.a hx.out ha.out _))
    | (go_at_call 134; with_reducible exact Calls.quiet_of (turn64_any x n.b hx.out hb.out _))
    | (go_at_call 134; with_reducible exact Calls.quiet_of (turn64_any x n.c hx.out hc.out _)))
  go_wp2
  go_ret
  exact ⟨rfl, nq, rfl⟩
set_option maxHeartbeats 1000000 in
/-- mix, the last one a shift. -/
theorem mix64_sml (x : Nat) (n : T3) (hx : x < 18446744073709551616) (hn : n.Ok 64) (w : World) :
    Calls Tryz.prog 132 #[.int .u64 x, t3v n, .int .i64 64, .bool false] w fun e w' => e = .returned (.int .u64 (sml 64 x n : Nat)) ∧ ∃ k, w' = (w.alloc (t3o n)).drewN k := by
  have ha := hn.a; have hb := hn.b; have hc := hn.c
  have r1 := rotr_lt 64 x n.a hx; have r2 := rotr_lt 64 x n.b hx
  have r3 : x / 2 ^ n.c < 2 ^ 64 := Nat.lt_of_le_of_lt (Nat.div_le_self _ _) hx
  have q1 := xor64 _ _ r1 r2
  have r4 := Nat.xor_lt_two_pow r1 r2
  have q2 := xor64 _ _ r4 r3
  have e1 : (x : Int) / 2 ^ n.c = ((x / 2 ^ n.c : Nat) : Int) := by simp
  rw [← e1] at q2
  clear r1 r2 r3 r4 hn e1
  have hx := Box.mk hx; have ha := Box.mk ha; have hb := Box.mk hb
  unfold t3v
  go_enter Tryz.func132, Tryz.ntmps132
  go_wp2_with fail
  go_quiet (first
    | (go_at_call 134; with_reducible exact Calls.quiet_of (turn64_any x n.a hx.out ha.out _))
    | (go_at_call 134; with_reducible exact Calls.quiet_of (turn64_any x n.b hx.out hb.out _)))
  go_wp2
  go_ret
  exact ⟨rfl, nq, rfl⟩
end Go.Proofs.YtedmkpdohffigaaGreat
namespace Go.Proofs.YtedmkpdohffigaaGreat
set_option linter.unusedVariables false
open Go Go.RowKit

theorem heap_setCells (b : Nat) (T : TypeId) : ∀ (vs P R : List Value) (w : World), w.heap[b]? = some (.cells (P ++ R).toArray T (0, 0)) → vs.length ≤ R.length →
    (w.setCells b P.length vs).heap[b]? = some (.cells (P ++ vs ++ R.drop vs.length).toArray T (0, 0))
  | [], P, R, w, h, _ => by simpa [World.setCells] using h
  | v :: vs, P, R, w, h, hl => by
    cases R with
    | nil => simp at hl
    | cons x R =>
      rw [World.setCells]
      have h1 : (w.setCell ⟨b, P.length, none⟩ v).heap[b]? = some (.cells ((P ++ [v]) ++ R).toArray T (0, 0)) := by
        rw [heap_setCell_same _ _ _ _ _ _ h, List.setIfInBounds_toArray, List.set_append_right _ _ (Nat.le_refl _), Nat.sub_self, List.set_cons_zero, List.append_assoc]; rfl
      have := heap_setCells b T vs (P ++ [v]) R _ h1 (by simpa using hl)
      rw [List.length_append, List.length_singleton] at this
      rw [this, List.length_cons, List.drop_succ_cons, List.append_assoc P [v] vs]; rfl
theorem upd_setCells (b : Nat) (vs : List Value) (o : Nat) (w : World) : Upd [b] w (w.setCells b o vs) := by
  induction vs generalizing o w with
  | nil => exact Upd.refl _ _
  | cons v vs ih => exact ((Upd.refl [b] w).setCell (p := ⟨b, o, none⟩) (by simp) v).trans (ih (o + 1) _)
theorem size_setCells (b : Nat) (vs : List Value) (o : Nat) (w : World) : (w.setCells b o vs).heap.size = w.heap.size := by
  induction vs generalizing o w with
  | nil => rfl
  | cons v vs ih => rw [World.setCells, ih]; simp
/-- append where there is room: the world behind it. -/
theorem append_room {P : Program} {t e ty T : TypeId} {i : TypeInfo} (ht : P.underlying t = some (.slice e)) (hi : P.info? e = some i) (hsz : i.size = 1)
    {w : World} {g cap n m c : Nat} {a : Addr} {xs news R : List Value} (hg : w.heap[g]? = some (.cells (xs ++ R).toArray T (0, 0))) (hn : xs.length = n) (hm : news.length = m)
    (hnews : ∀ j u, news[j]? = some u → w.cell? (a.add j) = some u) (h1 : ∀ u ∈ news, u.oneCell' = true) (hroom : n + m ≤ cap) (hR : m ≤ R.length) :
    (Builtin.append_ #[t, t] ty #[.slice (some ⟨g, 0, none⟩) n cap, .slice (some a) m c]).run P w = .ok (.slice (some ⟨g, 0, none⟩) (n + m) cap) (w.setCells g n news) ∧
      (w.setCells g n news).heap[g]? = some (.cells (xs ++ news ++ R.drop m).toArray T (0, 0)) := by
  subst hn hm
  have h := run_append_room_cells (P := P) (w := w) t ty e i ht hi g 0 xs.length cap a news.length c news (by rw [hsz, Nat.mul_one]) hnews h1 hroom (fun j hj => by
    rw [hsz, Nat.zero_add, Nat.mul_one, cell_of_row _ _ _ _ _ _ hg, List.getElem?_toArray, List.getElem?_append_right (by omega), List.getElem?_eq_getElem (by omega)]; rfl) (fun j hj => frozen_of_row _ _ _ _ _ hg)
  rw [hsz, Nat.zero_add, Nat.mul_one] at h
  exact ⟨h, heap_setCells g T news xs R w hg hR⟩
/-- make of l ones, with room for c. -/
theorem make_room {P : Program} {t e : TypeId} {z : Value} {by_ : Nat} (ht : P.underlying t = some (.slice e)) (hinfo : (P.info? e).map (fun i => (i.zero, i.size, i.bytes)) = some (some z, 1, by_)) (hz : z.cells = #[z])
    (l c : Nat) (hlc : l ≤ c) (hc : c ≤ 1000000) (hby : by_ ≤ 16) (x y : Int) (hx : x = l) (hy : y = c) (w : World) :
    (Instr.makeSlice t (.int .i64 x) (.int .i64 y)).run P w = .ok (.slice (some ⟨w.heap.size, 0, none⟩) l c) (w.alloc (.cells (List.replicate c z).toArray e)) := by
  subst hx hy
  obtain ⟨i0, hi, hz0, hz1, hz2⟩ := info_parts hinfo
  have hb : (by_ : Int) * c ≤ 281474976710656 := by
    have : by_ * c ≤ 16 * 1000000 := Nat.mul_le_mul hby hc
    omega
  have h := run_make (P := P) w t e i0 z ht hi hz0 .i64 .i64 l c (by omega) (by omega) (by rw [hz2]; exact hb) (by omega)
  rw [h, hz1, Int.toNat_natCast, Int.toNat_natCast, Nat.mul_one, hz]
  congr 3
  apply Array.ext
  · simp [madeCells]
  · intro i h1 h2
    simp [madeCells, Nat.mod_one]
/-- append by an equation of its run. -/
theorem wpList_append_run {P : Program} {w w' : World} {ops : Array Oper} {rest : List Oper} {o : Oper} {a : Act} {Q : Exit → Act → World → Prop} (hg : o.guard = none) (s x : Operand) (t : TypeId)
    (hop : o.op = Op.call { callee := Callee.builtin Builtin.append, args := #[s, x], argTypes := #[t, t] }) {v1 v2 v : Value} (hs : a.eval s = v1) (hx : a.eval x = v2)
    (hrun : (Builtin.append_ #[t, t] o.type #[v1, v2]).run P w = .ok v w') (hK : wpList P ops Q rest (a.put o.dst v) w') : wpList P ops Q (o :: rest) a w := by
  refine wpList_plain hg fun K hK' => ?_
  unfold Oper.wp
  simp [execOp, hop, resolve, invoke, builtin, hs, hx, hrun, Result.andThen]
  exact hK' _ _ hK
/-- append of one to a row of the call's own, as the walk meets it: the one lies in a new block; what lies below B stands. -/
theorem wpList_append1 {P : Program} {w w0 : World} {ops : Array Oper} {rest : List Oper} {o : Oper} {a : Act} {Q : Exit → Act → World → Prop} (hgd : o.guard = none) (s x : Operand) (t : TypeId)
    (ho : o.op = .call { callee := .builtin .append, args := #[s, x], argTypes := #[t, t] })
    (B : Nat) (e : TypeId) (z : Value) (by_ : Nat) (ht : P.underlying t = some (.slice e)) (hi : (P.info? e).map (fun i => (i.zero, i.size, i.bytes)) = some (some z, 1, by_)) (hz : z.cells.size = 1)
    (v : Value) (n : Nat) (xs : List Value) (hs : a.eval s = v) (hown : w.ownsRow B e 1 v n xs) (hb : Below B w0 w) (hB : B ≤ w.heap.size)
    (y : Value) (hx : a.eval x = .slice (some ⟨w.heap.size, 0, none⟩) 1 1) (h1 : y.oneCell' = true) (hn : n ≤ 1000000000) (hby : by_ ≤ 16)
    (h : ∀ v' w', w'.ownsRow B e 1 v' (n + 1) (xs ++ [y]) → Below B w0 w' → B ≤ w'.heap.size → (w.alloc (.cells #[y] e)).grownBy w' v.ownBlock → v' ≠ .slice none 0 0 → wpList P ops Q rest (a.put o.dst v') w') :
    wpList P ops Q (o :: rest) a (w.alloc (.cells #[y] e)) := by
  obtain ⟨i0, hi0, hz0, hz1, hz2⟩ := info_parts hi
  refine wpList_append_own _ hgd s x t ho B e i0 z 1 by_ ht hi0 hz0 hz1 hz2 hz (by decide) v n xs hs (hown.alloc _) ⟨w.heap.size, 0, none⟩ 1 1 [y] hx rfl ?_ ?_ ?_ ?_ ?_ ?_
  · intro j u hj
    match j, hj with
    | 0, hj => simp at hj; subst hj; simp [Addr.add]
  · intro u hu; simp at hu; subst hu; exact h1
  · unfold maxLen; omega
  · have : (n + 1) * by_ ≤ (n + 1) * 16 := Nat.mul_le_mul (Nat.le_refl _) hby
    omega
  · simp; omega
  · intro v' w' ho' hg' hnil
    have hlo := hown.lt
    have hbel := (hb.alloc hB (.cells #[y] e)).grown hg' (by simp; omega) (fun t ht => (hlo t ht).1)
    have hs' := hg'.size
    rw [World.size_alloc] at hs'
    exact h v' w' ho' hbel (by omega) hg' (fun e => absurd (hnil.1 e).2 (by decide))
/-- A row of the call's own: its cells. -/
theorem owned_cells {w : World} {base n : Nat} {e : TypeId} {v : Value} {xs : List Value} (h : w.ownsRow base e 1 v n xs) (hn : v ≠ .slice none 0 0) :
    ∃ g cap, v = .slice (some ⟨g, 0, none⟩) n cap ∧ base ≤ g ∧ (∀ j u, xs[j]? = some u → w.cell? ⟨g, j, none⟩ = some u) ∧ g < w.heap.size ∧ n ≤ cap := by
  have hc := fun g hg => h.cells (g := g) hg
  rcases h.2 with ⟨rfl, rfl⟩ | ⟨g, cap, cur, rfl, hbg, hg, hnc, _⟩
  · exact absurd rfl hn
  · refine ⟨g, cap, rfl, hbg, fun j u hu => ?_, (Array.getElem?_eq_some_iff.1 hg).1, hnc⟩
    have := hc g rfl j u hu
    rwa [show ((⟨g, 0, none⟩ : Addr).add j) = ⟨g, j, none⟩ from by unfold Addr.add; split <;> simp_all] at this
/-- string(b), from any cells. -/
theorem run_str_at (P : Program) (w : World) (b off cap : Nat) (l : List UInt8) (src dst e : TypeId) (n : Nat) (hn : l.length = n)
    (hs : P.underlying src = some (.slice e)) (he : P.underlying e = some (.int .u8)) (hd : P.underlying dst = some .string)
    (hg : ∀ j u, l[j]? = some u → w.cell? ⟨b, off + j, none⟩ = some (.int .u8 (u.toNat : Int))) :
    (convert src dst (.slice (some ⟨b, off, none⟩) n cap)).run P w = .ok (.string ⟨l.toArray⟩) w := by
  subst hn
  rw [run_convert_bytes_string w src dst e _ _ _ hs he hd]
  have h := run_loadCells_list (P := P) (w := w) ⟨b, off, none⟩ ((l.map fun u => (u.toNat : Int)).map (Value.int .u8)) (by
    intro j v hj
    have : (⟨b, off, none⟩ : Addr).add j = ⟨b, off + j, none⟩ := by unfold Addr.add; split <;> simp_all
    rw [this]
    rw [List.getElem?_map, List.getElem?_map] at hj
    cases hl : l[j]? with
    | none => rw [hl] at hj; simp at hj
    | some u => rw [hl] at hj; simp at hj; subst hj; exact hg j u hl)
  rw [List.length_map, List.length_map] at h
  rw [run_bytesToString w _ _ _ _ h]
  have : ∀ (l : List UInt8) (acc : ByteArray), (l.map fun u => (u.toNat : Int)).foldl (fun r n => r.push (UInt8.ofNat n.toNat)) acc = ⟨(acc.data.toList ++ l).toArray⟩ := by
    intro l
    induction l with
    | nil => intro acc; simp
    | cons c l ih => intro acc; simp only [List.map_cons, List.foldl_cons]; rw [ih]; simp [ByteArray.push]
  rw [this]
  rfl
/-- An aggregate built, under a name. -/
theorem wpList_built {P : Program} {ops : Array Oper} {rest : List Oper} {o : Oper} {a : Act} {w : World} {Q : Exit → Act → World → Prop} (hg : o.guard = none) (t : TypeId) (parts : Array (Nat × Operand)) (ho : o.op = .build t parts)
    (cs : Array Value) (hf : P.built t (parts.map fun (i, x) => (i, a.eval x)).toList = some cs) (h : wpList P ops Q rest (a.put o.dst (.agg cs)) w) : wpList P ops Q (o :: rest) a w :=
  wpList_build hg t parts ho (by rw [hf]; rfl) (by rw [hf]; exact h)
def byv (u : UInt8) : Value := .int .u8 (u.toNat : Int)
theorem run_str_owned {P : Program} {w : World} {base n : Nat} {e src dst : TypeId} {v : Value} {l : List UInt8} (h : w.ownsRow base e 1 v n (l.map byv)) (hn : v ≠ .slice none 0 0)
    (hs : P.underlying src = some (.slice e)) (he : P.underlying e = some (.int .u8)) (hd : P.underlying dst = some .string) : (convert src dst v).run P w = .ok (.string ⟨l.toArray⟩) w := by
  have hl := h.1
  rw [List.length_map, Nat.mul_one] at hl
  obtain ⟨g, cap, rfl, _, hc, _, _⟩ := owned_cells h hn
  exact run_str_at P w g 0 cap l src dst e n hl hs he hd (fun j u hj => by rw [Nat.zero_add]; exact hc j _ (by rw [List.getElem?_map, hj]; rfl))
end Go.Proofs.YtedmkpdohffigaaGreat
