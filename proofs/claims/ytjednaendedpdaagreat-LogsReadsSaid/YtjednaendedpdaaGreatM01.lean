/- Small laws that the texts of this place share: worlds, carries, bits. Nothing of the program. Memory: what a store does to a block; worlds that differ in named blocks alone. The flash: its state, how it lies in memory; what reads or writes its fields alone. The flash: Program, as a function of its state, and the program's own. The flash: Erase. The flash: what tells its state, and what turns the power. -/
import Derived.WalkKit
import Derived.WalkLawsBesides
import Derived.WalkSpells
import Derived.Handy
import Derived.RegionTactic
import Derived.BigRegion
import Derived.Deep.QuietTactic
import Derived.BigQuiet
import Derived.StillTailTactics
import Derived.Shelf.Spec.BitsCarry
import Derived.Test.YtjednaendedpdaaGreatRows
namespace Go.Proofs.YtjednaendedpdaaGreat
set_option maxRecDepth 100000
set_option linter.unusedVariables false
open Go Go.RowKit

/-- A fact kept from the walk, behind a structure that nothing unfolds. -/
structure Box (p : Prop) : Prop where
  out : p

/-- All old cells and all old marks read as before. -/
theorem bcell {W w1 : World} (hb : Below W.heap.size W w1) : (∀ b o, b < W.heap.size → w1.cell? ⟨b, o, none⟩ = W.cell? ⟨b, o, none⟩) ∧ (∀ b o, b < W.heap.size → w1.frozen? ⟨b, o, none⟩ = W.frozen? ⟨b, o, none⟩) :=
  ⟨fun b o h => hb.cell (p := ⟨b, o, none⟩) h, fun b o h => hb.frozen (p := ⟨b, o, none⟩) h⟩

/-- Two blocks of the call's own, behind a call that kept them. -/
theorem two_new {w w1 : World} {A B : Obj} (h : Below ((w.alloc A).alloc B).heap.size ((w.alloc A).alloc B) w1) :
    w1.heap[w.heap.size]? = some A ∧ w1.heap[w.heap.size + 1]? = some B ∧ Below w.heap.size w w1 ∧ w.heap.size + 2 ≤ w1.heap.size := by
  have hz := h.size
  simp only [World.size_alloc] at hz
  refine ⟨?_, ?_, (((Below.refl _ _).alloc (Nat.le_refl _) _).alloc (by simp) _).trans (h.mono (by simp; omega)), hz⟩
  · rw [h.block w.heap.size (by simp; omega), heap_alloc_old _ _ (by simp), heap_alloc_new]
  · have := heap_alloc_new (w.alloc A) B
    rw [World.size_alloc] at this
    rw [h.block (w.heap.size + 1) (by simp), this]

/-- Limb i of a number, in words of 64 bits. -/
@[irreducible] def limb (n i : Nat) : Int := ((n / 2 ^ (64 * i) % 18446744073709551616 : Nat) : Int)
theorem limb_bd (n i : Nat) : 0 ≤ limb n i ∧ limb n i < 18446744073709551616 := by unfold limb; omega

theorem int_congr {k : IntKind} {a b : Int} (h : a = b) : Value.int k a = Value.int k b := by rw [h]
theorem agg4_congr {k : IntKind} {a b c d a' b' c' d' : Int} (h0 : a = a') (h1 : b = b') (h2 : c = c') (h3 : d = d') :
    Value.agg #[.int k a, .int k b, .int k c, .int k d] = Value.agg #[.int k a', .int k b', .int k c', .int k d'] := by rw [h0, h1, h2, h3]

/-- A sum with a carry, of words. -/
theorem add64_ex (P : Program) (f : FuncId) (fn : Func) (hf : P.funcs[f]? = some fn) (hname : (fn.name == "runtime.NumGoroutine") = false)
    (hb : fn.body.isNone = true) (hn : Extern.findNext fn = none) (he : Extern.find fn = some add64Entry) (x y c : Int)
    (hx : 0 ≤ x ∧ x < 18446744073709551616) (hy : 0 ≤ y ∧ y < 18446744073709551616) (hc : 0 ≤ c ∧ c ≤ 1) :
    ∃ s o : Int, (∀ w, (callFunc f #[.int .u64 x, .int .u64 y, .int .u64 c]).run P w = .ok (.value (.tuple #[.int .u64 s, .int .u64 o])) w) ∧
      (0 ≤ s ∧ s < 18446744073709551616) ∧ (0 ≤ o ∧ o ≤ 1) ∧ s + 18446744073709551616 * o = x + y + c := by
  refine ⟨(x + y + c) % 18446744073709551616, (x + y + c) / 18446744073709551616, fun w => ?_, by omega, by omega, by omega⟩
  rw [run_callFunc_extern hf hname hb hn he, run_add64 x y c (by omega) (by omega) (by omega) (by omega)]
  rfl

/-- A difference with a borrow, of words. -/
theorem sub64_ex (P : Program) (f : FuncId) (fn : Func) (hf : P.funcs[f]? = some fn) (hname : (fn.name == "runtime.NumGoroutine") = false)
    (hb : fn.body.isNone = true) (hn : Extern.findNext fn = none) (he : Extern.find fn = some sub64Entry) (x y c : Int)
    (hx : 0 ≤ x ∧ x < 18446744073709551616) (hy : 0 ≤ y ∧ y < 18446744073709551616) (hc : 0 ≤ c ∧ c ≤ 1) :
    ∃ s o : Int, (∀ w, (callFunc f #[.int .u64 x, .int .u64 y, .int .u64 c]).run P w = .ok (.value (.tuple #[.int .u64 s, .int .u64 o])) w) ∧
      (0 ≤ s ∧ s < 18446744073709551616) ∧ (0 ≤ o ∧ o ≤ 1) ∧ s = x - y - c + 18446744073709551616 * o := by
  obtain ⟨x, rfl⟩ := Int.eq_ofNat_of_zero_le hx.1
  obtain ⟨y, rfl⟩ := Int.eq_ofNat_of_zero_le hy.1
  obtain ⟨c, rfl⟩ := Int.eq_ofNat_of_zero_le hc.1
  refine ⟨_, _, fun w => by rw [run_callFunc_extern hf hname hb hn he, run_sub64 x y c (by omega)]; rfl, by omega, ?_, ?_⟩
  · split <;> omega
  · split <;> omega

/-- Twice a word, and a bit. -/
theorem or_bit (a b : Int) (ha : 0 ≤ a ∧ a < 18446744073709551616) (hb : 0 ≤ b ∧ b ≤ 1) :
    bits .or .u64 (IntKind.u64.wrap (a * 2)) b = a * 2 % 18446744073709551616 + b := by
  obtain ⟨a, rfl⟩ := Int.eq_ofNat_of_zero_le ha.1
  obtain ⟨b, rfl⟩ := Int.eq_ofNat_of_zero_le hb.1
  rw [IntKind.wrap_u64, show ((a : Int) * 2 % 18446744073709551616) = ((a * 2 % 18446744073709551616 : Nat) : Int) from by omega,
    u64_or_nat _ _ (by omega) (by omega), nat_join 1 _ _ (by omega) (by omega)]
  omega

/-- string(b) of a row of bytes. -/
theorem run_bytes_of_row (P : Program) (w : World) (b cap : Nat) (l : List UInt8) (t src dst e : TypeId) (n : Nat) (hn : l.length = n)
    (hs : P.underlying src = some (.slice e)) (he : P.underlying e = some (.int .u8)) (hd : P.underlying dst = some .string)
    (hg : w.heap[b]? = some (.cells (l.map fun u => Value.int .u8 (u.toNat : Int)).toArray t (0, 0))) :
    (convert src dst (.slice (some ⟨b, 0, none⟩) n cap)).run P w = .ok (.string ⟨l.toArray⟩) w := by
  subst hn
  rw [run_convert_bytes_string w src dst e _ _ _ hs he hd]
  have h := run_loadCells_list (P := P) (w := w) ⟨b, 0, none⟩ ((l.map fun u => (u.toNat : Int)).map (Value.int .u8)) (by
    intro j v hj
    have : (⟨b, 0, none⟩ : Addr).add j = ⟨b, j, none⟩ := by unfold Addr.add; split <;> simp_all
    rw [this, cell_of_row w b j _ t (0, 0) hg]
    simpa [List.map_map, Function.comp_def] using hj)
  rw [List.length_map, List.length_map] at h
  rw [run_bytesToString w _ _ _ _ h]
  have : ∀ (l : List UInt8) (acc : ByteArray), (l.map fun u => (u.toNat : Int)).foldl (fun r n => r.push (UInt8.ofNat n.toNat)) acc = ⟨(acc.data.toList ++ l).toArray⟩ := by
    intro l
    induction l with
    | nil => intro acc; simp
    | cons c l ih => intro acc; simp only [List.map_cons, List.foldl_cons]; rw [ih]; simp [ByteArray.push]
  rw [this]
  rfl

/-- A quiet call, in a region that draws. -/
theorem quiet_calls {P : Program} {f : FuncId} {args : Array Value} {w : World} {n : Nat} {v : Value}
    (h : Calls P f args (w.drewN n) fun e w' => e = .returned v ∧ w.drewN n = w') : Calls P f args (w.drewN n) fun e w'' => e = .returned v ∧ ∃ m, w'' = w.drewN m :=
  h.mono fun _ _ ⟨he, hm⟩ => ⟨he, n, hm.symm⟩
end Go.Proofs.YtjednaendedpdaaGreat
namespace Go.Proofs.YtjednaendedpdaaGreat
set_option maxRecDepth 100000
set_option linter.unusedVariables false
open Go Go.RowKit

/-- A block with one cell set. -/
def Obj.put (o : Obj) (i : Nat) (v : Value) : Obj :=
  match o with
  | .cells c e fr => .cells (c.setIfInBounds i v) e fr
  | o => o
theorem heap_set (w : World) (b i : Nat) (v : Value) (k : Nat) : (w.setCell ⟨b, i, none⟩ v).heap[k]? = if k = b then (w.heap[k]?).map (Obj.put · i v) else w.heap[k]? := by
  simp only [World.setCell, Array.getElem?_modify]
  by_cases h : b = k
  · subst h
    simp only [if_true]
    cases w.heap[b]? with
    | none => rfl
    | some o => cases o <;> rfl
  · rw [if_neg h, if_neg (fun e => h e.symm)]

/-- Of what was there, nothing but the blocks of S has turned. -/
structure Upd (S : List Nat) (w w' : World) : Prop where
  os : w'.os = w.os
  tape : w'.tape = w.tape
  output : w'.output = w.output
  size : w.heap.size ≤ w'.heap.size
  block : ∀ k, k < w.heap.size → k ∉ S → w'.heap[k]? = w.heap[k]?
theorem Upd.refl (S : List Nat) (w : World) : Upd S w w := ⟨rfl, rfl, rfl, Nat.le_refl _, fun _ _ _ => rfl⟩
theorem Upd.trans {S : List Nat} {a b c : World} (h : Upd S a b) (k : Upd S b c) : Upd S a c :=
  ⟨k.os.trans h.os, k.tape.trans h.tape, k.output.trans h.output, Nat.le_trans h.size k.size, fun i hi hn => (k.block i (Nat.lt_of_lt_of_le hi h.size) hn).trans (h.block i hi hn)⟩
theorem Upd.mono {S T : List Nat} {a b : World} (h : Upd S a b) (hs : ∀ k, k ∈ S → k ∈ T) : Upd T a b :=
  ⟨h.os, h.tape, h.output, h.size, fun i hi hn => h.block i hi (fun hm => hn (hs i hm))⟩
theorem Upd.setCell {S : List Nat} {a b : World} (h : Upd S a b) {p : Addr} (hp : p.block ∈ S ∨ a.heap.size ≤ p.block) (v : Value) : Upd S a (b.setCell p v) :=
  ⟨h.os, h.tape, h.output, by simpa using h.size, fun i hi hn => (Below.heap_setCell _ _ _ _ (fun e => by
    subst e
    rcases hp with hp | hp
    · exact hn hp
    · omega)).trans (h.block i hi hn)⟩
theorem Upd.alloc {S : List Nat} {a b : World} (h : Upd S a b) (o : Obj) : Upd S a (b.alloc o) :=
  ⟨h.os, h.tape, h.output, by have := h.size; simp; omega, fun i hi hn => (Below.heap_alloc _ _ _ (Nat.lt_of_lt_of_le hi h.size)).trans (h.block i hi hn)⟩
theorem Upd.drew {S : List Nat} {a b : World} (h : Upd S a b) : Upd S a b.drew := ⟨h.os, h.tape, h.output, h.size, h.block⟩
theorem Upd.drewN {S : List Nat} {a b : World} (h : Upd S a b) (n : Nat) : Upd S a (b.drewN n) := h.trans ⟨rfl, rfl, rfl, Nat.le_refl _, fun _ _ _ => rfl⟩
theorem Upd.of_below {S : List Nat} {a b : World} (h : Below a.heap.size a b) : Upd S a b := ⟨h.os, h.tape, h.output, h.size, fun i hi _ => h.block i hi⟩
/-- Blocks from B on alone have turned. -/
theorem Upd.below {S : List Nat} {B : Nat} {a b c : World} (h : Below B a b) (k : Upd S b c) (hS : ∀ i, i ∈ S → B ≤ i) (hB : B ≤ b.heap.size) : Below B a c :=
  ⟨k.os.trans h.os, k.tape.trans h.tape, k.output.trans h.output, Nat.le_trans h.size k.size, fun i hi => (k.block i (by omega) (fun hm => by have := hS i hm; omega)).trans (h.block i hi)⟩
theorem Upd.trans2 {S : List Nat} {a b c : World} {k : Nat} (h : Upd S a b) (u : Upd [k] b c) (hk : k ∈ S ∨ a.heap.size ≤ k) : Upd S a c :=
  ⟨u.os.trans h.os, u.tape.trans h.tape, u.output.trans h.output, Nat.le_trans h.size u.size, fun i hi hn => (u.block i (Nat.lt_of_lt_of_le hi h.size) (fun hm => by
    rw [List.mem_singleton] at hm; subst hm
    rcases hk with hk | hk
    · exact hn hk
    · omega)).trans (h.block i hi hn)⟩
end Go.Proofs.YtjednaendedpdaaGreat
namespace Go.Proofs.YtjednaendedpdaaGreat
set_option maxRecDepth 100000
set_option linter.unusedVariables false
open Go Go.RowKit

/-- A flash's state. -/
structure FS where
  b : List UInt8
  n : List Int
  steps : Int
  armed : Int
  keep : Int
  mask : UInt8
  dead : Bool

def bval (u : UInt8) : Value := .int .u8 (u.toNat : Int)
def nval (n : Int) : Value := .int .i64 n

/-- The numbers are in their bounds. -/
structure FS.Ok (s : FS) : Prop where
  armed : 0 ≤ s.armed ∧ s.armed ≤ 9223372036854775807
  keep : 0 ≤ s.keep ∧ s.keep ≤ 9223372036854775807
  len : s.b.length = 512 * s.n.length
  few : 1 ≤ s.n.length ∧ s.n.length ≤ 256

/-- A flash (its own type is t) at block p, its bytes at bb, its counts at cb. -/
structure Fl (t : TypeId) (w : World) (p bb cb : Nat) (s : FS) : Prop where
  st : ∃ bcap ccap, s.b.length ≤ bcap ∧ s.n.length ≤ ccap ∧ w.heap[p]? = some (.cells #[.slice (some ⟨bb, 0, none⟩) s.b.length bcap, .slice (some ⟨cb, 0, none⟩) s.n.length ccap, .int .i64 s.steps, .int .i64 s.armed, .int .i64 s.keep, .int .u8 (s.mask.toNat : Int), .bool s.dead] t (0, 0))
  by_ : ∃ sp fr, w.heap[bb]? = some (.cells (s.b.map bval ++ sp).toArray 5 fr) ∧ (fr = (0, 0) ∨ s.b.length ≤ fr.1)
  cn : ∃ sp, w.heap[cb]? = some (.cells (s.n.map nval ++ sp).toArray 3 (0, 0))
  d1 : p ≠ bb
  d2 : p ≠ cb
  d3 : bb ≠ cb

theorem Fl.lt {t : TypeId} {w : World} {p bb cb : Nat} {s : FS} (h : Fl t w p bb cb s) : p < w.heap.size ∧ bb < w.heap.size ∧ cb < w.heap.size := by
  obtain ⟨_, _, _, _, h1⟩ := h.st
  obtain ⟨_, _, h2, _⟩ := h.by_
  obtain ⟨_, h3⟩ := h.cn
  exact ⟨(Array.getElem?_eq_some_iff.1 h1).1, (Array.getElem?_eq_some_iff.1 h2).1, (Array.getElem?_eq_some_iff.1 h3).1⟩
theorem Fl.upd {t : TypeId} {w w' : World} {p bb cb : Nat} {s : FS} {S : List Nat} (h : Fl t w p bb cb s) (hu : Upd S w w') (h1 : p ∉ S) (h2 : bb ∉ S) (h3 : cb ∉ S) : Fl t w' p bb cb s := by
  have hl := h.lt
  obtain ⟨a, b, e1, e2, g1⟩ := h.st
  obtain ⟨x, fr, g2, hfr⟩ := h.by_
  obtain ⟨y, g3⟩ := h.cn
  exact ⟨⟨a, b, e1, e2, (hu.block _ hl.1 h1).trans g1⟩, ⟨x, fr, (hu.block _ hl.2.1 h2).trans g2, hfr⟩, ⟨y, (hu.block _ hl.2.2 h3).trans g3⟩, h.d1, h.d2, h.d3⟩

/-- The fields' cells. -/
theorem Fl.cells {t : TypeId} {w : World} {p bb cb : Nat} {s : FS} (h : Fl t w p bb cb s) :
    ∃ bcap ccap, s.b.length ≤ bcap ∧ s.n.length ≤ ccap ∧ w.cell? ⟨p, 0, none⟩ = some (.slice (some ⟨bb, 0, none⟩) s.b.length bcap) ∧ w.cell? ⟨p, 1, none⟩ = some (.slice (some ⟨cb, 0, none⟩) s.n.length ccap) ∧
      w.cell? ⟨p, 2, none⟩ = some (.int .i64 s.steps) ∧ w.cell? ⟨p, 3, none⟩ = some (.int .i64 s.armed) ∧ w.cell? ⟨p, 4, none⟩ = some (.int .i64 s.keep) ∧ w.cell? ⟨p, 5, none⟩ = some (.int .u8 (s.mask.toNat : Int)) ∧ w.cell? ⟨p, 6, none⟩ = some (.bool s.dead) := by
  obtain ⟨a, b, e1, e2, g1⟩ := h.st
  refine ⟨a, b, e1, e2, ?_, ?_, ?_, ?_, ?_, ?_, ?_⟩ <;> (rw [cell_of_row _ _ _ _ _ _ g1]; rfl)
theorem Fl.free {t : TypeId} {w : World} {p bb cb : Nat} {s : FS} (h : Fl t w p bb cb s) (i : Nat) : w.frozen? ⟨p, i, none⟩ = false := by
  obtain ⟨a, b, e1, e2, g1⟩ := h.st
  exact frozen_of_row _ _ _ _ _ g1

/-- A field set. -/
theorem Fl.set2 {t : TypeId} {w : World} {p bb cb : Nat} {s : FS} (h : Fl t w p bb cb s) (v : Int) : Fl t (w.setCell ⟨p, 2, none⟩ (.int .i64 v)) p bb cb { s with steps := v } := by
  obtain ⟨a, b, e1, e2, g1⟩ := h.st
  obtain ⟨x, fr, g2, hfr⟩ := h.by_
  obtain ⟨y, g3⟩ := h.cn
  exact ⟨⟨a, b, e1, e2, by rw [heap_setCell_same _ _ _ _ _ _ g1]; rfl⟩, ⟨x, fr, by rw [heap_setCell_other _ _ _ _ h.d1.symm]; exact g2, hfr⟩, ⟨y, by rw [heap_setCell_other _ _ _ _ h.d2.symm]; exact g3⟩, h.d1, h.d2, h.d3⟩
theorem Fl.set3 {t : TypeId} {w : World} {p bb cb : Nat} {s : FS} (h : Fl t w p bb cb s) (v : Int) : Fl t (w.setCell ⟨p, 3, none⟩ (.int .i64 v)) p bb cb { s with armed := v } := by
  obtain ⟨a, b, e1, e2, g1⟩ := h.st
  obtain ⟨x, fr, g2, hfr⟩ := h.by_
  obtain ⟨y, g3⟩ := h.cn
  exact ⟨⟨a, b, e1, e2, by rw [heap_setCell_same _ _ _ _ _ _ g1]; rfl⟩, ⟨x, fr, by rw [heap_setCell_other _ _ _ _ h.d1.symm]; exact g2, hfr⟩, ⟨y, by rw [heap_setCell_other _ _ _ _ h.d2.symm]; exact g3⟩, h.d1, h.d2, h.d3⟩
theorem Fl.set4 {t : TypeId} {w : World} {p bb cb : Nat} {s : FS} (h : Fl t w p bb cb s) (v : Int) : Fl t (w.setCell ⟨p, 4, none⟩ (.int .i64 v)) p bb cb { s with keep := v } := by
  obtain ⟨a, b, e1, e2, g1⟩ := h.st
  obtain ⟨x, fr, g2, hfr⟩ := h.by_
  obtain ⟨y, g3⟩ := h.cn
  exact ⟨⟨a, b, e1, e2, by rw [heap_setCell_same _ _ _ _ _ _ g1]; rfl⟩, ⟨x, fr, by rw [heap_setCell_other _ _ _ _ h.d1.symm]; exact g2, hfr⟩, ⟨y, by rw [heap_setCell_other _ _ _ _ h.d2.symm]; exact g3⟩, h.d1, h.d2, h.d3⟩
theorem Fl.set5 {t : TypeId} {w : World} {p bb cb : Nat} {s : FS} (h : Fl t w p bb cb s) (v : UInt8) : Fl t (w.setCell ⟨p, 5, none⟩ (.int .u8 (v.toNat : Int))) p bb cb { s with mask := v } := by
  obtain ⟨a, b, e1, e2, g1⟩ := h.st
  obtain ⟨x, fr, g2, hfr⟩ := h.by_
  obtain ⟨y, g3⟩ := h.cn
  exact ⟨⟨a, b, e1, e2, by rw [heap_setCell_same _ _ _ _ _ _ g1]; rfl⟩, ⟨x, fr, by rw [heap_setCell_other _ _ _ _ h.d1.symm]; exact g2, hfr⟩, ⟨y, by rw [heap_setCell_other _ _ _ _ h.d2.symm]; exact g3⟩, h.d1, h.d2, h.d3⟩
theorem Fl.set6 {t : TypeId} {w : World} {p bb cb : Nat} {s : FS} (h : Fl t w p bb cb s) (v : Bool) : Fl t (w.setCell ⟨p, 6, none⟩ (.bool v)) p bb cb { s with dead := v } := by
  obtain ⟨a, b, e1, e2, g1⟩ := h.st
  obtain ⟨x, fr, g2, hfr⟩ := h.by_
  obtain ⟨y, g3⟩ := h.cn
  exact ⟨⟨a, b, e1, e2, by rw [heap_setCell_same _ _ _ _ _ _ g1]; rfl⟩, ⟨x, fr, by rw [heap_setCell_other _ _ _ _ h.d1.symm]; exact g2, hfr⟩, ⟨y, by rw [heap_setCell_other _ _ _ _ h.d2.symm]; exact g3⟩, h.d1, h.d2, h.d3⟩
theorem Fl.to {t : TypeId} {w : World} {p bb cb : Nat} {s s' : FS} (h : Fl t w p bb cb s) (e : s = s') : Fl t w p bb cb s' := e ▸ h

/-- A step is counted: does the power go in it? -/
def FS.step (s : FS) : FS := { s with steps := wrap64 (s.steps + 1), armed := if s.armed = 0 then 0 else s.armed - 1, dead := if s.armed = 0 then s.dead else decide (s.armed - 1 = 0) }
def FS.goes (s : FS) : Bool := if s.armed = 0 then false else decide (s.armed - 1 = 0)

set_option maxHeartbeats 1000000 in
theorem step_any (p bb cb : Nat) (s : FS) (w : World) (h : Fl 89 w p bb cb s) (hok : s.Ok) :
    Calls Tryz.prog 101 #[.pointer (some ⟨p, 0, none⟩)] w fun e w' => e = .returned (.bool s.goes) ∧ Fl 89 w' p bb cb s.step ∧ Upd [p] w w' := by
  obtain ⟨bcap, ccap, hb, hc, c0, c1, c2, c3, c4, c5, c6⟩ := h.cells
  have f2 := h.free 2; have f3 := h.free 3; have f6 := h.free 6
  have hkeep := hok.armed
  by_cases ha : s.armed = 0
  · have ha' : (s.armed == 0) = true := by simpa using ha
    have HA := Box.mk ha; clear ha
    clear c0 c1 c4 c5
    go_enter Tryz.func101, Tryz.ntmps101
    go_wp2
    go_ret
    refine ⟨by simp [FS.goes, HA.out], (h.set2 _).to (by cases s; have := HA.out; simp_all [FS.step]), (Upd.refl _ _).setCell (by simp) _⟩
  · have ha' : (s.armed == 0) = false := by simpa using ha
    have HA := Box.mk ha; clear ha
    clear c0 c1 c4 c5
    go_enter Tryz.func101, Tryz.ntmps101
    go_wp2
    go_ret
    refine ⟨?_, (((h.set2 _).set3 _).set6 _).to (by cases s; have := HA.out; simp_all [FS.step]; rfl), (((Upd.refl _ _).setCell (by simp) _).setCell (by simp) _).setCell (by simp) _⟩
    simp only [FS.goes, if_neg HA.out]
    rfl

/-- Do bytes lie on it? -/
@[irreducible] def onB (l : Nat) (at_ n : Int) : Bool := decide (0 ≤ at_ ∧ 0 ≤ n ∧ at_ + n ≤ l)

set_option maxHeartbeats 1000000 in
theorem within_any (p bb cb : Nat) (s : FS) (at_ n : Int) (w : World) (h : Fl 89 w p bb cb s) (hok : s.Ok) (ba : -9223372036854775808 ≤ at_ ∧ at_ ≤ 9223372036854775807) (bn : -9223372036854775808 ≤ n ∧ n ≤ 9223372036854775807) :
    Calls Tryz.prog 81 #[.pointer (some ⟨p, 0, none⟩), .int .i64 at_, .int .i64 n] w fun e w' => e = .returned (.bool (onB s.b.length at_ n)) ∧ w = w' := by
  obtain ⟨bcap, ccap, hb, hc, c0, c1, c2, c3, c4, c5, c6⟩ := h.cells
  have hlen := hok.len
  have hfew := hok.few
  have hl : (s.b.length : Int) ≤ 131072 := by omega
  clear c1 c2 c3 c4 c5 c6 hlen hfew hc hb
  generalize s.b.length = l at c0 hl ⊢
  by_cases h0 : 0 ≤ at_
  · have h0' : decide (0 ≤ at_) = true := by simpa using h0
    by_cases h1 : 0 ≤ n
    · have h1' : decide (0 ≤ n) = true := by simpa using h1
      by_cases h2 : at_ ≤ l
      · have h2' : decide (at_ ≤ (l : Int)) = true := by simpa using h2
        have E : Box (onB l at_ n = decide (n ≤ (l : Int) - at_)) := ⟨by unfold onB; rw [decide_eq_decide]; omega⟩
        go_enter Tryz.func81, Tryz.ntmps81
        go_wp2
        go_ret
        exact ⟨by rw [E.out]; rfl, rfl⟩
      · have h2' : decide (at_ ≤ (l : Int)) = false := by simpa using h2
        have E : Box (onB l at_ n = false) := ⟨by unfold onB; rw [decide_eq_false_iff_not]; omega⟩
        go_enter Tryz.func81, Tryz.ntmps81
        go_wp2
        go_ret
        exact ⟨by rw [E.out]; rfl, rfl⟩
    · have h1' : decide (0 ≤ n) = false := by simpa using h1
      have E : Box (onB l at_ n = false) := ⟨by unfold onB; rw [decide_eq_false_iff_not]; omega⟩
      go_enter Tryz.func81, Tryz.ntmps81
      go_wp2
      go_ret
      exact ⟨by rw [E.out]; rfl, rfl⟩
  · have h0' : decide (0 ≤ at_) = false := by simpa using h0
    have E : Box (onB l at_ n = false) := ⟨by unfold onB; rw [decide_eq_false_iff_not]; omega⟩
    go_enter Tryz.func81, Tryz.ntmps81
    go_wp2
    go_ret
    exact ⟨by rw [E.out]; rfl, rfl⟩

/-- What a step answers. -/
@[irreducible] def toldI (g : Bool) : Int := if g then 2 else 0
theorem told_any (g : Bool) (w : World) :
    Calls Tryz.prog 102 #[.bool g] w fun e w' => e = .returned (.int .i64 (toldI g)) ∧ w = w' := by
  have e1 : Box (toldI true = 2) := ⟨by unfold toldI; rfl⟩
  have e2 : Box (toldI false = 0) := ⟨by unfold toldI; rfl⟩
  cases g
  · go_enter Tryz.func102, Tryz.ntmps102
    go_wp2
    go_ret
    exact ⟨by rw [e2.out]; rfl, rfl⟩
  · go_enter Tryz.func102, Tryz.ntmps102
    go_wp2
    go_ret
    exact ⟨by rw [e1.out]; rfl, rfl⟩
end Go.Proofs.YtjednaendedpdaaGreat
namespace Go.Proofs.YtjednaendedpdaaGreat
set_option maxRecDepth 100000
set_option linter.unusedVariables false
open Go Go.RowKit

/-- What a byte becomes when the i-th byte of a Program comes to it. -/
def progByte (gone : Bool) (keep : Int) (mask : UInt8) (i : Nat) (old c : UInt8) : UInt8 :=
  if gone = false ∨ (i : Int) < keep then old &&& c else if (i : Int) = keep then old &&& (c ||| mask) else old
def progBytes (b : List UInt8) (A : Nat) (l : List UInt8) (gone : Bool) (keep : Int) (mask : UInt8) : List UInt8 :=
  b.mapIdx fun k old => if A ≤ k then (match l[k - A]? with | some c => progByte gone keep mask (k - A) old c | none => old) else old
theorem progBytes_length (b : List UInt8) (A : Nat) (l : List UInt8) (gone : Bool) (keep : Int) (mask : UInt8) : (progBytes b A l gone keep mask).length = b.length := by simp [progBytes]
theorem progBytes_nil (b : List UInt8) (A : Nat) (gone : Bool) (keep : Int) (mask : UInt8) : progBytes b A [] gone keep mask = b := by
  apply List.ext_getElem? ; intro i; simp [progBytes]
theorem progBytes_get (b : List UInt8) (A : Nat) (l : List UInt8) (gone : Bool) (keep : Int) (mask : UInt8) (k : Nat) (h : l.length ≤ k - A ∨ k < A) : (progBytes b A l gone keep mask)[k]? = b[k]? := by
  simp only [progBytes, List.getElem?_mapIdx]
  cases hb : b[k]? with
  | none => rfl
  | some o =>
    simp only [Option.map_some, Option.some.injEq]
    split
    · rename_i hA
      rw [List.getElem?_eq_none (by omega)]
    · rfl
theorem progBytes_step (b : List UInt8) (A : Nat) (l : List UInt8) (gone : Bool) (keep : Int) (mask : UInt8) (i : Nat) (c old : UInt8) (hc : l[i]? = some c) (ho : b[A + i]? = some old) :
    (progBytes b A (l.take i) gone keep mask).set (A + i) (progByte gone keep mask i old c) = progBytes b A (l.take (i + 1)) gone keep mask := by
  have hil : i < l.length := (List.getElem?_eq_some_iff.1 hc).1
  have hbl : A + i < b.length := (List.getElem?_eq_some_iff.1 ho).1
  apply List.ext_getElem?
  intro k
  rw [List.getElem?_set]
  split
  · rename_i h; subst h
    simp only [progBytes_length, hbl, if_true]
    simp only [progBytes, List.getElem?_mapIdx, ho, Option.map_some]
    rw [if_pos (by omega), show A + i - A = i from by omega, List.getElem?_take, if_pos (by omega), hc]
  · rename_i h
    simp only [progBytes, List.getElem?_mapIdx]
    congr 1
    funext old
    by_cases hA : A ≤ k
    · rw [if_pos hA, if_pos hA, List.getElem?_take, List.getElem?_take]
      by_cases hk : k - A < i
      · rw [if_pos hk, if_pos (by omega)]
      · rw [if_neg hk, if_neg (by omega)]
    · rw [if_neg hA, if_neg hA]
theorem progBytes_rest (b : List UInt8) (A : Nat) (l : List UInt8) (keep : Int) (mask : UInt8) (i : Nat) (hi : keep < i) :
    progBytes b A (l.take i) true keep mask = progBytes b A l true keep mask := by
  apply List.ext_getElem?
  intro k
  simp only [progBytes, List.getElem?_mapIdx]
  congr 1
  funext old
  by_cases hA : A ≤ k
  · rw [if_pos hA, if_pos hA, List.getElem?_take]
    by_cases hk : k - A < i
    · rw [if_pos hk]
    · rw [if_neg hk]
      cases hl : l[k - A]? with
      | none => rfl
      | some c => simp only [progByte]; rw [if_neg (by simp; omega), if_neg (by omega)]
  · rw [if_neg hA, if_neg hA]

/-- A byte of the flash set. -/
theorem Fl.setb {t : TypeId} {w : World} {p bb cb : Nat} {s : FS} (h : Fl t w p bb cb s) (k : Nat) (hk : k < s.b.length) (v : UInt8) (n : Int) (hn : n = (v.toNat : Int)) :
    Fl t (w.setCell ⟨bb, k, none⟩ (.int .u8 n)) p bb cb { s with b := s.b.set k v } := by
  subst hn
  obtain ⟨a, b, e1, e2, g1⟩ := h.st
  obtain ⟨x, fr, g2, hfr⟩ := h.by_
  obtain ⟨y, g3⟩ := h.cn
  refine ⟨⟨a, b, by simpa using e1, e2, by rw [heap_setCell_other _ _ _ _ h.d1]; simpa using g1⟩, ⟨x, fr, ?_, by simpa using hfr⟩, ⟨y, by rw [heap_setCell_other _ _ _ _ h.d3.symm]; exact g3⟩, h.d1, h.d2, h.d3⟩
  rw [heap_set, if_pos rfl, g2]
  simp only [Option.map_some, Obj.put]
  congr 2
  rw [List.setIfInBounds_toArray, List.set_append_left _ _ (by simpa using hk), show Value.int .u8 (v.toNat : Int) = bval v from rfl, ← List.map_set]
theorem Fl.byte {t : TypeId} {w : World} {p bb cb : Nat} {s : FS} (h : Fl t w p bb cb s) (k : Nat) (u : UInt8) (hk : s.b[k]? = some u) : w.cell? ⟨bb, k, none⟩ = some (.int .u8 (u.toNat : Int)) ∧ w.frozen? ⟨bb, k, none⟩ = false := by
  obtain ⟨x, fr, g2, hfr⟩ := h.by_
  have hkl := (List.getElem?_eq_some_iff.1 hk).1
  refine ⟨?_, ?_⟩
  rotate_left
  · simp only [World.frozen?, g2]
    rcases hfr with rfl | hfr
    · simp
    · simp; omega
  rw [cell_of_row _ _ _ _ _ _ g2, List.getElem?_toArray, List.getElem?_append_left (by have := (List.getElem?_eq_some_iff.1 hk).1; simpa using this), List.getElem?_map, hk]; rfl

theorem and_u8 (a c : UInt8) : bits .and .u8 (a.toNat : Int) (c.toNat : Int) = ((a &&& c).toNat : Int) := by rw [u8_and_nat _ _ a.toNat_lt c.toNat_lt, UInt8.toNat_and]
theorem or_u8 (a c : UInt8) : bits .or .u8 (a.toNat : Int) (c.toNat : Int) = ((a ||| c).toNat : Int) := by rw [u8_or_nat _ _ a.toNat_lt c.toNat_lt, UInt8.toNat_or]

/-- Program: the state behind it, and the error's number. -/
def FS.program (s : FS) (at_ : Int) (l : List UInt8) : FS × Int :=
  if s.dead then (s, 2)
  else if onB s.b.length at_ l.length = false then (s, 111)
  else if l = [] then (s, 0)
  else if at_ / 64 ≠ (at_ + l.length - 1) / 64 then (s, 112)
  else ({ s.step with b := progBytes s.b at_.toNat l s.goes s.keep s.mask }, toldI s.goes)

set_option maxRecDepth 100000 in
set_option maxHeartbeats 2000000 in
theorem prog_loop (p bb cb A : Nat) (s : FS) (str : ByteArray) (w : World) (h : Fl 89 w p bb cb s) (hok : s.Ok) (hd : s.dead = false) (hl : A + str.size ≤ s.b.length) (hne : str.size ≠ 0) (hp : (A : Int) / 64 = ((A : Int) + str.size - 1) / 64) :
    Calls Tryz.prog 80 #[.pointer (some ⟨p, 0, none⟩), .int .i64 A, .string str] w fun e w' => e = .returned (.int .i64 (toldI s.goes)) ∧ Fl 89 w' p bb cb { s.step with b := progBytes s.b A str.data.toList s.goes s.keep s.mask } ∧ Upd [p, bb] w w' := by
  obtain ⟨bcap, ccap, hb, hc, c0, c1, c2, c3, c4, c5, c6⟩ := h.cells
  rw [hd] at c6
  have hb2 : (s.b.length : Int) ≤ 131072 := by have := hok.len; have := hok.few; omega
  have hon : onB s.b.length (A : Int) (str.size : Int) = true := by unfold onB; rw [decide_eq_true_iff]; omega
  have hstr : (str.toList == []) = false := by rw [ByteArray.toList_eq, beq_eq_false_iff_ne]; intro e; apply hne; have := congrArg List.length e; simpa using this
  have hstr2 : str.toList.isEmpty = false := by simpa using hstr
  have hpg : ((A : Int) / 64 != ((A : Int) + str.size - 1) / 64) = false := by rw [bne_eq_false_iff_eq]; exact hp
  have HP := Box.mk hp; clear hp hd
  have HON := Box.mk hon; clear hon
  have HF := Box.mk h
  clear c1 c2 c3 c4 c5 hc h
  go_enter Tryz.func80, Tryz.ntmps80
  go_wp2_with fail
  refine (within_any p bb cb s A str.size _ HF.out hok (by omega) (by omega)).mono ?_
  rintro e w1 ⟨rfl, rfl⟩
  rw [HON.out]
  go_wp2_with fail
  refine (step_any p bb cb s _ HF.out hok).mono ?_
  rintro e w1 ⟨rfl, hf1, hu1⟩
  have hkeep := hok.keep
  obtain ⟨bcap1, ccap1, hb1, hc1, d0, d1, d2, d3, d4, d5, d6⟩ := hf1.cells
  have HF1 := Box.mk hf1; clear hf1
  have HU1 := Box.mk hu1; clear hu1
  have HNE := Box.mk hne; clear hne
  have HL := Box.mk hl
  clear c0 c6 d0 d1 d2 d3 d4 d5 d6 hb1 hc1 hb
  generalize hG : s.goes = G
  have HG := Box.mk hG; clear hG
  go_wp2_with fail
  go_loopw [39] (fun i wr => ∃ k : Nat, k ≤ str.size ∧ i = .int .i64 k ∧ Fl 89 wr p bb cb { s.step with b := progBytes s.b A (str.data.toList.take k) G s.keep s.mask } ∧ Upd [p, bb] w wr) (fun i _ => str.size - (intOf i).toNat)
  case atStart => exact ⟨0, by omega, rfl, HF1.out.to (by rw [List.take_zero, progBytes_nil]; rfl), HU1.out.mono (by simp)⟩
  case round =>
    clear HF1 HU1
    obtain ⟨k, hk, rfl, hf, hu⟩ := hrel
    obtain ⟨bcapr, ccapr, hbr, hcr, d0, d1, d2, d3, d4, d5, d6⟩ := hf.cells
    simp only [progBytes_length] at d0 hbr
    have hkp : s.step.keep = s.keep := rfl
    have hmk : s.step.mask = s.mask := rfl
    simp only [hkp, hmk] at d4 d5
    clear hkp hmk d1 d2 d3 d6 hcr
    have HU := Box.mk hu; clear hu
    by_cases hlt : k < str.size
    · have hAk : A + k < s.b.length := by omega
      obtain ⟨old, ho⟩ : ∃ old, s.b[A + k]? = some old := ⟨_, List.getElem?_eq_getElem hAk⟩
      have hc : str.data.toList[k]? = some str[k] := by rw [List.getElem?_eq_getElem (by simpa using hlt)]; rfl
      have hob : (progBytes s.b A (str.data.toList.take k) G s.keep s.mask)[A + k]? = some old := by
        rw [progBytes_get _ _ _ _ _ _ _ (by left; simp; omega)]; exact ho
      obtain ⟨e1, e2⟩ := hf.byte (A + k) old hob
      have hst := progBytes_step s.b A str.data.toList G s.keep s.mask k str[k] old hc ho
      have HST := Box.mk hst; clear hst
      have HFR := Box.mk hf; clear hf
      have hset := fun (v : UInt8) (n : Int) hn => (HFR.out.setb (A + k) (by simp only [progBytes_length]; exact hAk) v n hn)
      have HSET := Box.mk hset; clear hset ho hob hc
      have q1 := and_u8 old str[k]; have q2 := or_u8 str[k] s.mask; have q3 := and_u8 old (str[k] ||| s.mask)
      have hcv := str[k].toNat_lt; have hov := old.toNat_lt
      have hkI : (k : Int) < (str.size : Int) := by omega
      cases G
      · go_wp2
        refine ⟨⟨k + 1, by omega, by go_num, (HSET.out (old &&& str[k]) _ (by rw [UInt8.toNat_and])).to ?_, HU.out.setCell (by simp) _⟩, by simp [intOf]; omega⟩
        rw [← HST.out]; simp [progByte]
      · by_cases hc1 : (k : Int) < s.keep
        · have hc1' : decide (s.keep ≤ (k : Int)) = false := by simpa using hc1
          have HC1 := Box.mk hc1
          go_wp2
          refine ⟨⟨k + 1, by omega, by go_num, (HSET.out (old &&& str[k]) _ (by rw [UInt8.toNat_and])).to ?_, HU.out.setCell (by simp) _⟩, by simp [intOf]; omega⟩
          rw [← HST.out]; simp [progByte, HC1.out]
        · have hc1' : decide (s.keep ≤ (k : Int)) = true := by simp; omega
          have HC1 := Box.mk hc1
          by_cases hc2 : (k : Int) = s.keep
          · have hc2' : ¬ s.keep < (k : Int) := by omega
            have HC2 := Box.mk hc2; clear hc2
            go_wp2
            refine ⟨⟨k + 1, by omega, by go_num, (HSET.out (old &&& (str[k] ||| s.mask)) _ (by rw [← UInt8.toNat_or, and_u8])).to ?_, HU.out.setCell (by simp) _⟩, by simp [intOf]; omega⟩
            rw [← HST.out]; simp only [progByte]; rw [if_neg (by simp; omega), if_pos HC2.out]
          · have hc2' : s.keep < (k : Int) := by omega
            have HC2 := Box.mk hc2'
            clear hc2
            go_wp2_with fail
            refine (told_any true _).mono ?_
            rintro e w2 ⟨rfl, rfl⟩
            go_wp2
            go_ret
            refine ⟨by rw [HG.out]; rfl, HFR.out.to ?_, HU.out⟩
            rw [HG.out, progBytes_rest _ _ _ _ _ _ HC2.out]
    · have hk2 : k = str.size := by omega
      subst hk2
      have HFR := Box.mk hf; clear hf
      go_wp2_with fail
      refine (told_any G _).mono ?_
      rintro e w2 ⟨rfl, rfl⟩
      go_wp2
      go_ret
      refine ⟨by rw [HG.out]; rfl, HFR.out.to ?_, HU.out⟩
      rw [HG.out, List.take_of_length_le (by simp)]

/-- The numbers of a state stay in their bounds. -/
theorem FS.Ok.step {s : FS} (h : s.Ok) : s.step.Ok := by
  have := h.armed
  exact ⟨by simp only [FS.step]; split <;> omega, h.keep, h.len, h.few⟩
theorem FS.Ok.setb {s : FS} (h : s.Ok) (b : List UInt8) (hb : b.length = s.b.length) : ({ s with b := b } : FS).Ok := ⟨h.armed, h.keep, by simp only; rw [hb]; exact h.len, h.few⟩
theorem FS.program_ok {s : FS} (h : s.Ok) (at_ : Int) (l : List UInt8) : (s.program at_ l).1.Ok := by
  unfold FS.program
  (repeat' split) <;> first | exact h | exact h.step.setb _ (progBytes_length _ _ _ _ _ _)

set_option maxRecDepth 100000 in
set_option maxHeartbeats 2000000 in
/-- (*Flash).Program. -/
theorem program_any (p bb cb : Nat) (s : FS) (at_ : Int) (str : ByteArray) (w : World) (h : Fl 89 w p bb cb s) (hok : s.Ok) (ba : -9223372036854775808 ≤ at_ ∧ at_ ≤ 9223372036854775807) (hs : str.size ≤ 9223372036854775807) :
    Calls Tryz.prog 80 #[.pointer (some ⟨p, 0, none⟩), .int .i64 at_, .string str] w fun e w' => e = .returned (.int .i64 (s.program at_ str.data.toList).2) ∧ Fl 89 w' p bb cb (s.program at_ str.data.toList).1 ∧ Upd [p, bb] w w' := by
  have hlen : str.data.toList.length = str.size := by simp
  have HF := Box.mk h
  obtain ⟨bcap, ccap, hb, hc, c0, c1, c2, c3, c4, c5, c6⟩ := h.cells
  clear c0 c1 c2 c3 c4 c5 hb hc h
  by_cases hd : s.dead = true
  · have E : Box (s.program at_ str.data.toList = (s, 2)) := ⟨by unfold FS.program; rw [if_pos hd]⟩
    rw [hd] at c6; clear hd
    rw [E.out]
    go_enter Tryz.func80, Tryz.ntmps80
    go_wp2
    go_ret
    exact ⟨rfl, HF.out, Upd.refl _ _⟩
  · by_cases ho : onB s.b.length at_ str.size = true
    · by_cases hn : str.size = 0
      · have E : Box (s.program at_ str.data.toList = (s, 0)) := ⟨by
          unfold FS.program; rw [if_neg hd, hlen, if_neg (by rw [ho]; simp), if_pos (List.eq_nil_of_length_eq_zero (by rw [hlen, hn]))]⟩
        rw [E.out]
        have hd' : s.dead = false := by simpa using hd
        rw [hd'] at c6; clear hd hd'
        have hstr2 : str.toList.isEmpty = true := by rw [ByteArray.toList_eq, List.isEmpty_iff]; exact List.eq_nil_of_length_eq_zero (by rw [hlen, hn])
        have hstr : str.toList = [] := by simpa using hstr2
        have HO := Box.mk ho; clear ho hlen hn
        go_enter Tryz.func80, Tryz.ntmps80
        go_wp2_with fail
        refine (within_any p bb cb s at_ str.size _ HF.out hok ba (by omega)).mono ?_
        rintro e w1 ⟨rfl, rfl⟩
        rw [HO.out]
        go_wp2
        go_ret
        exact ⟨rfl, HF.out, Upd.refl _ _⟩
      · have hon : 0 ≤ at_ ∧ 0 ≤ (str.size : Int) ∧ at_ + str.size ≤ s.b.length := by unfold onB at ho; simpa using ho
        by_cases hp : at_ / 64 = (at_ + str.size - 1) / 64
        · obtain ⟨A, rfl⟩ := Int.eq_ofNat_of_zero_le hon.1
          have E : Box (s.program A str.data.toList = ({ s.step with b := progBytes s.b A str.data.toList s.goes s.keep s.mask }, toldI s.goes)) := ⟨by
            unfold FS.program; rw [if_neg hd, hlen, if_neg (by rw [ho]; simp), if_neg (fun e => hn (by rw [← hlen, e]; rfl)), if_neg (by simpa using hp)]; rfl⟩
          rw [E.out]
          exact prog_loop p bb cb A s str w HF.out hok (by simpa using hd) (by omega) hn hp
        · have E : Box (s.program at_ str.data.toList = (s, 112)) := ⟨by
            unfold FS.program; rw [if_neg hd, hlen, if_neg (by rw [ho]; simp), if_neg (fun e => hn (by rw [← hlen, e]; rfl)), if_pos hp]⟩
          rw [E.out]
          have hd' : s.dead = false := by simpa using hd
          rw [hd'] at c6; clear hd hd'
          have hlb : (s.b.length : Int) ≤ 131072 := by have := hok.len; have := hok.few; omega
          have hstr : (str.toList == []) = false := by rw [ByteArray.toList_eq, beq_eq_false_iff_ne]; intro e; apply hn; have := congrArg List.length e; simpa using this
          have hstr2 : str.toList.isEmpty = false := by simpa using hstr
          have hpg : (at_ / 64 != (at_ + str.size - 1) / 64) = true := by rw [bne_iff_ne]; exact hp
          have HO := Box.mk ho
          have HN := Box.mk hn
          clear ho hlen hn hp
          go_enter Tryz.func80, Tryz.ntmps80
          go_wp2_with fail
          refine (within_any p bb cb s at_ str.size _ HF.out hok ba (by omega)).mono ?_
          rintro e w1 ⟨rfl, rfl⟩
          rw [HO.out]
          have hpos : 1 ≤ (str.size : Int) := by have := HN.out; omega
          go_wp2
          go_ret
          exact ⟨rfl, HF.out, Upd.refl _ _⟩
    · have ho' : onB s.b.length at_ str.size = false := by simpa using ho
      have E : Box (s.program at_ str.data.toList = (s, 111)) := ⟨by unfold FS.program; rw [if_neg hd, hlen, if_pos ho']⟩
      rw [E.out]
      have hd' : s.dead = false := by simpa using hd
      rw [hd'] at c6; clear hd hd'
      have HO := Box.mk ho'; clear ho ho' hlen
      go_enter Tryz.func80, Tryz.ntmps80
      go_wp2_with fail
      refine (within_any p bb cb s at_ str.size _ HF.out hok ba (by omega)).mono ?_
      rintro e w1 ⟨rfl, rfl⟩
      rw [HO.out]
      go_wp2
      go_ret
      exact ⟨rfl, HF.out, Upd.refl _ _⟩
end Go.Proofs.YtjednaendedpdaaGreat
namespace Go.Proofs.YtjednaendedpdaaGreat
set_option maxRecDepth 100000
set_option linter.unusedVariables false
open Go Go.RowKit

/-- What a byte of page pg becomes in an Erase. -/
def eraseByte (gone : Bool) (keep : Int) (mask : UInt8) (pg : Nat) (old : UInt8) : UInt8 :=
  if gone = false ∨ (pg : Int) < keep then 255 else if (pg : Int) = keep then old ||| mask else old
def eraseUpto (b : List UInt8) (base m : Nat) (gone : Bool) (keep : Int) (mask : UInt8) : List UInt8 :=
  b.mapIdx fun k old => if base ≤ k ∧ k < base + m then eraseByte gone keep mask ((k - base) / 64) old else old
theorem eraseUpto_length (b : List UInt8) (base m : Nat) (gone : Bool) (keep : Int) (mask : UInt8) : (eraseUpto b base m gone keep mask).length = b.length := by simp [eraseUpto]
theorem eraseUpto_zero (b : List UInt8) (base : Nat) (gone : Bool) (keep : Int) (mask : UInt8) : eraseUpto b base 0 gone keep mask = b := by
  apply List.ext_getElem?; intro k
  simp only [eraseUpto, List.getElem?_mapIdx]
  cases b[k]? with
  | none => rfl
  | some o => simp only [Option.map_some]; rw [if_neg (by omega)]
theorem eraseUpto_get (b : List UInt8) (base m : Nat) (gone : Bool) (keep : Int) (mask : UInt8) (k : Nat) (h : base + m ≤ k) : (eraseUpto b base m gone keep mask)[k]? = b[k]? := by
  simp only [eraseUpto, List.getElem?_mapIdx]
  cases b[k]? with
  | none => rfl
  | some o => simp only [Option.map_some]; rw [if_neg (by omega)]
theorem eraseUpto_step (b : List UInt8) (base m : Nat) (gone : Bool) (keep : Int) (mask : UInt8) (old : UInt8) (ho : b[base + m]? = some old) :
    (eraseUpto b base m gone keep mask).set (base + m) (eraseByte gone keep mask (m / 64) old) = eraseUpto b base (m + 1) gone keep mask := by
  have hbl : base + m < b.length := (List.getElem?_eq_some_iff.1 ho).1
  apply List.ext_getElem?; intro k
  rw [List.getElem?_set]
  split
  · rename_i h; subst h
    simp only [eraseUpto_length, hbl, if_true]
    simp only [eraseUpto, List.getElem?_mapIdx, ho, Option.map_some]
    rw [if_pos (by omega), show base + m - base = m from by omega]
  · rename_i h
    simp only [eraseUpto, List.getElem?_mapIdx]
    congr 1; funext old
    by_cases hA : base ≤ k ∧ k < base + m
    · rw [if_pos hA, if_pos (by omega)]
    · rw [if_neg hA, if_neg (by omega)]
theorem eraseUpto_rest (b : List UInt8) (base pg : Nat) (keep : Int) (mask : UInt8) (hp : keep < pg) (hp8 : pg ≤ 8) :
    eraseUpto b base (64 * pg) true keep mask = eraseUpto b base 512 true keep mask := by
  apply List.ext_getElem?; intro k
  simp only [eraseUpto, List.getElem?_mapIdx]
  congr 1; funext old
  by_cases hA : base ≤ k ∧ k < base + 64 * pg
  · rw [if_pos hA, if_pos (by omega)]
  · rw [if_neg hA]
    split
    · rename_i hB
      have hq : pg ≤ (k - base) / 64 := by omega
      simp only [eraseByte]; rw [if_neg (by simp; omega), if_neg (by omega)]
    · rfl
theorem or255 (x : UInt8) : x ||| 255 = 255 := by
  apply UInt8.toNat_inj.1
  have hx := x.toNat_lt
  rw [UInt8.toNat_or, show (255 : UInt8).toNat = 255 from rfl]
  generalize x.toNat = n at hx
  apply Nat.eq_of_testBit_eq
  intro i
  rw [Nat.testBit_or, show (255 : Nat) = 2 ^ 8 - 1 from rfl, Nat.testBit_two_pow_sub_one]
  by_cases hi : i < 8
  · simp [hi]
  · simp only [hi, decide_false, Bool.or_false]
    exact Nat.testBit_lt_two_pow (Nat.lt_of_lt_of_le hx (Nat.pow_le_pow_right (by omega) (by omega)))

/-- A count set. -/
theorem Fl.setn {t : TypeId} {w : World} {p bb cb : Nat} {s : FS} (h : Fl t w p bb cb s) (k : Nat) (hk : k < s.n.length) (v : Int) :
    Fl t (w.setCell ⟨cb, k, none⟩ (.int .i64 v)) p bb cb { s with n := s.n.set k v } := by
  obtain ⟨a, b, e1, e2, g1⟩ := h.st
  obtain ⟨x, fr, g2, hfr⟩ := h.by_
  obtain ⟨y, g3⟩ := h.cn
  refine ⟨⟨a, b, e1, by simpa using e2, by rw [heap_setCell_other _ _ _ _ h.d2]; simpa using g1⟩, ⟨x, fr, by rw [heap_setCell_other _ _ _ _ h.d3]; exact g2, hfr⟩, ⟨y, ?_⟩, h.d1, h.d2, h.d3⟩
  rw [heap_setCell_same _ _ _ _ _ _ g3]
  congr 2
  rw [List.setIfInBounds_toArray, List.set_append_left _ _ (by simpa using hk), show Value.int .i64 v = nval v from rfl, ← List.map_set]
theorem Fl.count {t : TypeId} {w : World} {p bb cb : Nat} {s : FS} (h : Fl t w p bb cb s) (k : Nat) (u : Int) (hk : s.n[k]? = some u) : w.cell? ⟨cb, k, none⟩ = some (.int .i64 u) ∧ w.frozen? ⟨cb, k, none⟩ = false := by
  obtain ⟨x, g2⟩ := h.cn
  refine ⟨?_, frozen_of_row _ _ _ _ _ g2⟩
  rw [cell_of_row _ _ _ _ _ _ g2, List.getElem?_toArray, List.getElem?_append_left (by have := (List.getElem?_eq_some_iff.1 hk).1; simpa using this), List.getElem?_map, hk]; rfl

/-- Erase: the state behind it, and the error's number. -/
def FS.bump (s : FS) (k : Nat) : List Int := s.n.set k (wrap64 (s.n.getD k 0 + 1))
@[irreducible] def blkB (l : Nat) (block : Int) : Bool := decide (0 ≤ block ∧ block < l)
def FS.erase (s : FS) (block : Int) : FS × Int :=
  if s.dead then (s, 2)
  else if blkB s.n.length block = false then (s, 111)
  else ({ s.step with n := s.bump block.toNat, b := eraseUpto s.b (512 * block.toNat) 512 s.goes s.keep s.mask }, toldI s.goes)

theorem blocks_any (p bb cb : Nat) (s : FS) (w : World) (h : Fl 89 w p bb cb s) :
    Calls Tryz.prog 57 #[.pointer (some ⟨p, 0, none⟩)] w fun e w' => e = .returned (.int .i64 s.n.length) ∧ w = w' := by
  obtain ⟨bcap, ccap, hb, hc, c0, c1, c2, c3, c4, c5, c6⟩ := h.cells
  clear c0 c2 c3 c4 c5 c6 hb hc
  go_enter Tryz.func57, Tryz.ntmps57
  go_wp2
  go_ret
  exact ⟨rfl, rfl⟩

set_option maxRecDepth 100000 in
set_option maxHeartbeats 2000000 in
theorem erase_loop (p bb cb K : Nat) (s : FS) (w : World) (h : Fl 89 w p bb cb s) (hok : s.Ok) (hd : s.dead = false) (hk : K < s.n.length) :
    Calls Tryz.prog 111 #[.pointer (some ⟨p, 0, none⟩), .int .i64 K] w fun e w' => e = .returned (.int .i64 (toldI s.goes)) ∧ Fl 89 w' p bb cb { s.step with n := s.bump K, b := eraseUpto s.b (512 * K) 512 s.goes s.keep s.mask } ∧ Upd [p, bb, cb] w w' := by
  obtain ⟨bcap, ccap, hb, hc, c0, c1, c2, c3, c4, c5, c6⟩ := h.cells
  rw [hd] at c6
  have hfew := hok.few
  have hlen := Box.mk hok.len
  have HF := Box.mk h
  have hkI : (K : Int) < (s.n.length : Int) := by omega
  clear c0 c1 c2 c3 c4 c5 hc hb h hd
  go_enter Tryz.func111, Tryz.ntmps111
  go_wp2_with fail
  refine (blocks_any p bb cb s _ HF.out).mono ?_
  rintro e w1 ⟨rfl, rfl⟩
  go_wp2_with fail
  refine (step_any p bb cb s _ HF.out hok).mono ?_
  rintro e w1 ⟨rfl, hf1, hu1⟩
  have hkeep := hok.keep
  obtain ⟨bcap1, ccap1, hb1, hc1, d0, d1, d2, d3, d4, d5, d6⟩ := hf1.cells
  have hn1 : s.step.n.length = s.n.length := rfl
  simp only [hn1] at d1
  clear hn1
  obtain ⟨old, ho⟩ : ∃ old, s.n[K]? = some old := ⟨_, List.getElem?_eq_getElem hk⟩
  obtain ⟨x1, x2⟩ := hf1.count K old ho
  have hset := hf1.setn K hk (wrap64 (old + 1))
  have hset2 : Fl 89 (w1.setCell ⟨cb, K, none⟩ (.int .i64 (wrap64 (old + 1)))) p bb cb { s.step with n := s.bump K } := hset.to (by
    unfold FS.bump; rw [List.getD_eq_getElem?_getD, ho]; rfl)
  have HS := Box.mk hset2; clear hset hset2 ho
  have HU := Box.mk (Upd.setCell (S := [p, bb, cb]) (hu1.mono (by simp)) (p := ⟨cb, K, none⟩) (by simp) (.int .i64 (wrap64 (old + 1)))); clear hu1
  clear d0 d2 d3 d4 d5 d6 hb1 hc1 hf1 c6
  generalize hG : s.goes = G
  have HG := Box.mk hG; clear hG
  go_wp2_with fail
  go_loopw [35] (fun i wr => ∃ g : Nat, g ≤ 8 ∧ i = .int .i64 g ∧ Fl 89 wr p bb cb { s.step with n := s.bump K, b := eraseUpto s.b (512 * K) (64 * g) G s.keep s.mask } ∧ Upd [p, bb, cb] w wr) (fun i _ => 8 - (intOf i).toNat)
  case atStart => exact ⟨0, by omega, rfl, HS.out.to (by rw [Nat.mul_zero, eraseUpto_zero]; rfl), HU.out⟩
  case round =>
    clear HS HU x1 x2 d1
    obtain ⟨g, hg, rfl, hf, hu⟩ := hrel
    obtain ⟨bcapr, ccapr, hbr, hcr, d0, d1, d2, d3, d4, d5, d6⟩ := hf.cells
    have hkp : s.step.keep = s.keep := rfl
    have hmk : s.step.mask = s.mask := rfl
    simp only [hkp, hmk, eraseUpto_length] at d0 d4 d5
    clear hkp hmk d1 d2 d3 d6 hcr hbr
    have HU := Box.mk hu; clear hu
    have HF1 := Box.mk hf; clear hf
    by_cases hlt : g < 8
    · have hl0 := hlen.out
      by_cases hbrk : G = true ∧ s.keep < (g : Int)
      · obtain ⟨rfl, hc2⟩ := hbrk
        have hc1' : decide (s.keep ≤ (g : Int)) = true := by simp; omega
        have HC2 := Box.mk hc2
        clear hl0
        go_wp2_with fail
        refine (told_any true _).mono ?_
        rintro e w2 ⟨rfl, rfl⟩
        go_wp2
        go_ret
        exact ⟨by rw [HG.out]; rfl, HF1.out.to (by rw [HG.out, eraseUpto_rest _ _ _ _ _ HC2.out (by omega)]), HU.out⟩
      · have HBK := Box.mk hbrk; clear hbrk
        have H255 : Box (∀ old : UInt8, bits .or .u8 (old.toNat : Int) 255 = 255) := ⟨fun old => by have := or_u8 old 255; rw [or255] at this; exact this⟩
        have HL0 := Box.mk hl0; clear hl0
        by_cases hG1 : G = false
        case' pos =>
          subst hG1
          obtain ⟨B, HBe⟩ : ∃ B : Bool, Box (B = false) := ⟨_, ⟨rfl⟩⟩
          have HC : Box (∀ old : UInt8, bits .or .u8 (old.toNat : Int) 255 = ((eraseByte B s.keep s.mask g old).toNat : Int)) := ⟨fun old => by rw [H255.out, HBe.out]; simp [eraseByte]⟩
          have HF1 : Box (Fl 89 wr p bb cb { s.step with n := s.bump K, b := eraseUpto s.b (512 * K) (64 * g) B s.keep s.mask }) := ⟨HF1.out.to (by rw [HBe.out])⟩
          clear H255 HBK
          go_wp2_with fail
        case' neg =>
          have hG2 : G = true := by simpa using hG1
          subst hG2
          clear hG1
          by_cases hc1 : (g : Int) < s.keep
          case' pos =>
            have hc1' : decide (s.keep ≤ (g : Int)) = false := by simpa using hc1
            obtain ⟨B, HBe⟩ : ∃ B : Bool, Box (B = true) := ⟨_, ⟨rfl⟩⟩
            have HC : Box (∀ old : UInt8, bits .or .u8 (old.toNat : Int) 255 = ((eraseByte B s.keep s.mask g old).toNat : Int)) := ⟨fun old => by rw [H255.out, HBe.out]; simp [eraseByte, hc1]⟩
            have HF1 : Box (Fl 89 wr p bb cb { s.step with n := s.bump K, b := eraseUpto s.b (512 * K) (64 * g) B s.keep s.mask }) := ⟨HF1.out.to (by rw [HBe.out])⟩
            clear H255 HBK
            go_wp2_with fail
          case' neg =>
            have hc1' : decide (s.keep ≤ (g : Int)) = true := by simp; omega
            have hc2' : ¬ s.keep < (g : Int) := fun h => HBK.out ⟨rfl, h⟩
            obtain ⟨B, HBe⟩ : ∃ B : Bool, Box (B = true) := ⟨_, ⟨rfl⟩⟩
            have HF1 : Box (Fl 89 wr p bb cb { s.step with n := s.bump K, b := eraseUpto s.b (512 * K) (64 * g) B s.keep s.mask }) := ⟨HF1.out.to (by rw [HBe.out])⟩
            have HC : Box (∀ old : UInt8, bits .or .u8 (old.toNat : Int) (s.mask.toNat : Int) = ((eraseByte B s.keep s.mask g old).toNat : Int)) := ⟨fun old => by
              rw [or_u8, HBe.out]; simp only [eraseByte]; rw [if_neg (by simp; omega), if_pos (by omega)]⟩
            clear H255 HBK
            go_wp2_with fail
        all_goals
          obtain ⟨wo, rfl⟩ : ∃ wo : World, wo = wr := ⟨_, rfl⟩
          go_loopw [62] (fun i wr => ∃ j : Nat, j ≤ 64 ∧ i = .int .i64 j ∧ Fl 89 wr p bb cb { s.step with n := s.bump K, b := eraseUpto s.b (512 * K) (64 * g + j) B s.keep s.mask } ∧ Upd [p, bb, cb] w wr) (fun i _ => 64 - (intOf i).toNat)
          case atStart => exact ⟨0, by omega, rfl, HF1.out, HU.out⟩
          case round =>
            clear HF1 HU d0 d4 d5
            obtain ⟨j, hj, rfl, hf, hu⟩ := hrel
            obtain ⟨bcapq, ccapq, hbq, hcq, d0, d1, d2, d3, d4, d5, d6⟩ := hf.cells
            simp only [eraseUpto_length] at d0
            clear d1 d2 d3 d4 d5 d6 hcq hbq
            have HU := Box.mk hu; clear hu
            by_cases hjl : j < 64
            · obtain ⟨old, ho⟩ : ∃ old, s.b[512 * K + (64 * g + j)]? = some old := ⟨_, List.getElem?_eq_getElem (by have := HL0.out; omega)⟩
              have hob : (eraseUpto s.b (512 * K) (64 * g + j) B s.keep s.mask)[512 * K + (64 * g + j)]? = some old := by
                rw [eraseUpto_get _ _ _ _ _ _ _ (Nat.le_refl _)]; exact ho
              obtain ⟨e1, e2⟩ := hf.byte (512 * K + (64 * g + j)) old hob
              have hst := eraseUpto_step s.b (512 * K) (64 * g + j) B s.keep s.mask old ho
              rw [Nat.mul_add_div (by omega), Nat.div_eq_of_lt hjl, Nat.add_zero] at hst
              have HST := Box.mk hst; clear hst
              have HFR := Box.mk hf; clear hf
              have hset := fun (n : Int) hn => (HFR.out.setb (512 * K + (64 * g + j)) (by simp only [eraseUpto_length]; have := HL0.out; omega) (eraseByte B s.keep s.mask g old) n hn)
              have HSET := Box.mk hset; clear hset ho hob
              have q := HC.out old
              have hov := old.toNat_lt
              rw [show 512 * K + (64 * g + j) = K * 512 + g * 64 + j from by omega] at e1 e2
              have hin : (K : Int) * 512 + (g : Int) * 64 + (j : Int) < (s.b.length : Int) := by have := HL0.out; omega
              go_wp2
              refine ⟨⟨j + 1, by omega, by go_num, ?_, HU.out.setCell (by simp) _⟩, by simp [intOf]; omega⟩
              have h1 := HSET.out _ rfl
              rw [show 512 * K + (64 * g + j) = K * 512 + g * 64 + j from by omega] at h1
              refine h1.to ?_
              rw [show K * 512 + g * 64 + j = 512 * K + (64 * g + j) from by omega, HST.out, Nat.add_assoc]
            · have hj64 : j = 64 := by omega
              subst hj64
              have HFR := Box.mk hf; clear hf
              go_wp2
              refine ⟨⟨g + 1, by omega, by go_num, HFR.out.to ?_, HU.out⟩, by simp [intOf]; omega⟩
              rw [HBe.out, Nat.mul_add, Nat.mul_one]
    · have hg8 : g = 8 := by omega
      subst hg8
      go_wp2_with fail
      refine (told_any G _).mono ?_
      rintro e w2 ⟨rfl, rfl⟩
      go_wp2
      go_ret
      exact ⟨by rw [HG.out]; rfl, HF1.out.to (by rw [HG.out]), HU.out⟩

theorem FS.erase_ok {s : FS} (h : s.Ok) (block : Int) : (s.erase block).1.Ok := by
  unfold FS.erase
  (repeat' split) <;> first | exact h | exact ⟨h.step.armed, h.step.keep, by simp only [eraseUpto_length, FS.bump, List.length_set]; exact h.len, by simp only [FS.bump, List.length_set]; exact h.few⟩

set_option maxHeartbeats 1000000 in
/-- (*Flash).Erase. -/
theorem erase_any (p bb cb : Nat) (s : FS) (block : Int) (w : World) (h : Fl 89 w p bb cb s) (hok : s.Ok) :
    Calls Tryz.prog 111 #[.pointer (some ⟨p, 0, none⟩), .int .i64 block] w fun e w' => e = .returned (.int .i64 (s.erase block).2) ∧ Fl 89 w' p bb cb (s.erase block).1 ∧ Upd [p, bb, cb] w w' := by
  have HF := Box.mk h
  obtain ⟨bcap, ccap, hb, hc, c0, c1, c2, c3, c4, c5, c6⟩ := h.cells
  clear c0 c1 c2 c3 c4 c5 hb hc h
  by_cases hd : s.dead = true
  · have E : Box (s.erase block = (s, 2)) := ⟨by unfold FS.erase; rw [if_pos hd]⟩
    rw [hd] at c6; clear hd
    rw [E.out]
    go_enter Tryz.func111, Tryz.ntmps111
    go_wp2
    go_ret
    exact ⟨rfl, HF.out, Upd.refl _ _⟩
  · have hd' : s.dead = false := by simpa using hd
    by_cases hb : 0 ≤ block ∧ block < s.n.length
    · obtain ⟨K, rfl⟩ := Int.eq_ofNat_of_zero_le hb.1
      have E : Box (s.erase K = ({ s.step with n := s.bump K, b := eraseUpto s.b (512 * K) 512 s.goes s.keep s.mask }, toldI s.goes)) := ⟨by
        unfold FS.erase; rw [if_neg hd, if_neg (by unfold blkB; simpa using hb)]; rfl⟩
      rw [E.out]
      exact erase_loop p bb cb K s w HF.out hok hd' (by omega)
    · have E : Box (s.erase block = (s, 111)) := ⟨by
        unfold FS.erase; rw [if_neg hd, if_pos (by unfold blkB; simpa using hb)]⟩
      rw [E.out]
      rw [hd'] at c6; clear hd hd'
      by_cases h0 : block < 0
      · have h0' : decide (block < 0) = true := by simpa using h0
        clear hb
        go_enter Tryz.func111, Tryz.ntmps111
        go_wp2
        go_ret
        exact ⟨rfl, HF.out, Upd.refl _ _⟩
      · have h0' : decide (block < 0) = false := by simpa using h0
        have h1 : ((s.n.length : Nat) : Int) ≤ block := by omega
        clear hb
        go_enter Tryz.func111, Tryz.ntmps111
        go_wp2_with fail
        refine (blocks_any p bb cb s _ HF.out).mono ?_
        rintro e w1 ⟨rfl, rfl⟩
        go_wp2
        go_ret
        exact ⟨rfl, HF.out, Upd.refl _ _⟩
end Go.Proofs.YtjednaendedpdaaGreat
namespace Go.Proofs.YtjednaendedpdaaGreat
set_option maxRecDepth 100000
set_option linter.unusedVariables false
open Go Go.RowKit

/-- string(b) of bytes that lie in a row from off on. -/
theorem run_bytes_at (P : Program) (w : World) (b off cap : Nat) (l : List UInt8) (src dst e : TypeId) (n : Nat) (hn : l.length = n)
    (hs : P.underlying src = some (.slice e)) (he : P.underlying e = some (.int .u8)) (hd : P.underlying dst = some .string)
    (hg : ∀ j u, l[j]? = some u → w.cell? ⟨b, off + j, none⟩ = some (.int .u8 (u.toNat : Int))) :
    (convert src dst (.slice (some ⟨b, off, none⟩) n cap)).run P w = .ok (.string ⟨l.toArray⟩) w := by
  subst hn
  rw [run_convert_bytes_string w src dst e _ _ _ hs he hd]
  have h := run_loadCells_list (P := P) (w := w) ⟨b, off, none⟩ ((l.map fun u => (u.toNat : Int)).map (Value.int .u8)) (by
    intro j v hj
    have : (⟨b, off, none⟩ : Addr).add j = ⟨b, off + j, none⟩ := by unfold Addr.add; split <;> simp_all
    rw [this]
    rw [List.getElem?_map, List.getElem?_map] at hj
    cases hl : l[j]? with
    | none => rw [hl] at hj; simp at hj
    | some u => rw [hl] at hj; simp at hj; subst hj; exact hg j u hl)
  rw [List.length_map, List.length_map] at h
  rw [run_bytesToString w _ _ _ _ h]
  have : ∀ (l : List UInt8) (acc : ByteArray), (l.map fun u => (u.toNat : Int)).foldl (fun r n => r.push (UInt8.ofNat n.toNat)) acc = ⟨(acc.data.toList ++ l).toArray⟩ := by
    intro l
    induction l with
    | nil => intro acc; simp
    | cons c l ih => intro acc; simp only [List.map_cons, List.foldl_cons]; rw [ih]; simp [ByteArray.push]
  rw [this]
  rfl

theorem steps_any (p bb cb : Nat) (s : FS) (w : World) (h : Fl 89 w p bb cb s) :
    Calls Tryz.prog 12 #[.pointer (some ⟨p, 0, none⟩)] w fun e w' => e = .returned (.int .i64 s.steps) ∧ w = w' := by
  obtain ⟨bcap, ccap, hb, hc, c0, c1, c2, c3, c4, c5, c6⟩ := h.cells
  clear c0 c1 c3 c4 c5 c6 hb hc
  go_enter Tryz.func12, Tryz.ntmps12
  go_wp2
  go_ret
  exact ⟨rfl, rfl⟩
theorem dead_any (p bb cb : Nat) (s : FS) (w : World) (h : Fl 89 w p bb cb s) :
    Calls Tryz.prog 20 #[.pointer (some ⟨p, 0, none⟩)] w fun e w' => e = .returned (.bool s.dead) ∧ w = w' := by
  obtain ⟨bcap, ccap, hb, hc, c0, c1, c2, c3, c4, c5, c6⟩ := h.cells
  clear c0 c1 c2 c3 c4 c5 hb hc
  go_enter Tryz.func20, Tryz.ntmps20
  go_wp2
  go_ret
  exact ⟨rfl, rfl⟩
/-- How often a block was erased. -/
@[irreducible] def FS.count (s : FS) (block : Int) : Int := if 0 ≤ block then s.n.getD block.toNat 0 else 0
/-- The power goes; it comes back. -/
def FS.off (s : FS) : FS := { s with dead := true, armed := 0 }
def FS.back (s : FS) : FS := { s with dead := false, armed := 0 }
set_option maxHeartbeats 400000 in
theorem crash_any (p bb cb : Nat) (s : FS) (w : World) (h : Fl 89 w p bb cb s) :
    Calls Tryz.prog 19 #[.pointer (some ⟨p, 0, none⟩)] w fun e w' => e = .returned (.int .i64 (toldI s.dead)) ∧ Fl 89 w' p bb cb (if s.dead then s else s.off) ∧ Upd [p] w w' := by
  obtain ⟨bcap, ccap, hb, hc, c0, c1, c2, c3, c4, c5, c6⟩ := h.cells
  have f3 := h.free 3; have f6 := h.free 6
  have HF := Box.mk h
  clear c0 c1 c2 c4 c5 hb hc h
  have t1 : Box (toldI true = 2) := ⟨by unfold toldI; rfl⟩
  have t2 : Box (toldI false = 0) := ⟨by unfold toldI; rfl⟩
  by_cases hd : s.dead = true
  · have HD := Box.mk hd
    rw [hd] at c6; clear hd
    rw [HD.out]
    go_enter Tryz.func19, Tryz.ntmps19
    go_wp2
    go_ret
    exact ⟨by rw [t1.out]; rfl, HF.out, Upd.refl _ _⟩
  · have hd' : s.dead = false := by simpa using hd
    have HD := Box.mk hd'
    rw [hd'] at c6; clear hd hd'
    rw [HD.out]
    go_enter Tryz.func19, Tryz.ntmps19
    go_wp2
    go_ret
    exact ⟨by rw [t2.out]; rfl, (HF.out.set6 true).set3 0, ((Upd.refl _ _).setCell (by simp) _).setCell (by simp) _⟩
set_option maxHeartbeats 400000 in
theorem revive_any (p bb cb : Nat) (s : FS) (w : World) (h : Fl 89 w p bb cb s) :
    Calls Tryz.prog 21 #[.pointer (some ⟨p, 0, none⟩)] w fun e w' => e = .returned (.tuple #[]) ∧ Fl 89 w' p bb cb s.back ∧ Upd [p] w w' := by
  obtain ⟨bcap, ccap, hb, hc, c0, c1, c2, c3, c4, c5, c6⟩ := h.cells
  have f3 := h.free 3; have f6 := h.free 6
  have HF := Box.mk h
  clear c0 c1 c2 c4 c5 hb hc h
  go_enter Tryz.func21, Tryz.ntmps21
  go_wp2
  go_end0
  exact ⟨rfl, (HF.out.set6 false).set3 0, ((Upd.refl _ _).setCell (by simp) _).setCell (by simp) _⟩
/-- The next failure is laid. -/
def FS.arm (s : FS) (n keep : Int) (mask : UInt8) : FS × Int :=
  if s.dead then (s, 2) else if n < 0 then (s, 1) else ({ s with armed := n, keep := max 0 keep, mask := mask }, 0)
theorem FS.arm_ok {s : FS} (h : s.Ok) (n keep : Int) (mask : UInt8) (hn : n ≤ 9223372036854775807) (hk : keep ≤ 9223372036854775807) : (s.arm n keep mask).1.Ok := by
  unfold FS.arm
  (repeat' split) <;> first | exact h | exact ⟨⟨by simp only; omega, hn⟩, ⟨by simp only; omega, by simp only; omega⟩, h.len, h.few⟩
set_option maxHeartbeats 1000000 in
theorem arm_any (p bb cb : Nat) (s : FS) (n keep : Int) (mask : UInt8) (w : World) (h : Fl 89 w p bb cb s) (hk : -9223372036854775808 ≤ keep ∧ keep ≤ 9223372036854775807) :
    Calls Tryz.prog 18 #[.pointer (some ⟨p, 0, none⟩), .int .i64 n, .int .i64 keep, .int .u8 (mask.toNat : Int)] w fun e w' => e = .returned (.int .i64 (s.arm n keep mask).2) ∧ Fl 89 w' p bb cb (s.arm n keep mask).1 ∧ Upd [p] w w' := by
  obtain ⟨bcap, ccap, hb, hc, c0, c1, c2, c3, c4, c5, c6⟩ := h.cells
  have f3 := h.free 3; have f4 := h.free 4; have f5 := h.free 5
  have HF := Box.mk h
  clear c0 c1 c2 hb hc h
  by_cases hd : s.dead = true
  · have E : Box (s.arm n keep mask = (s, 2)) := ⟨by unfold FS.arm; rw [if_pos hd]⟩
    rw [hd] at c6; clear hd
    rw [E.out]
    go_enter Tryz.func18, Tryz.ntmps18
    go_wp2
    go_ret
    exact ⟨rfl, HF.out, Upd.refl _ _⟩
  · have hd' : s.dead = false := by simpa using hd
    by_cases hn : n < 0
    · have E : Box (s.arm n keep mask = (s, 1)) := ⟨by unfold FS.arm; rw [if_neg hd, if_pos hn]⟩
      rw [hd'] at c6; clear hd hd'
      rw [E.out]
      go_enter Tryz.func18, Tryz.ntmps18
      go_wp2
      go_ret
      exact ⟨rfl, HF.out, Upd.refl _ _⟩
    · have E : Box (s.arm n keep mask = ({ s with armed := n, keep := max 0 keep, mask := mask }, 0)) := ⟨by unfold FS.arm; rw [if_neg hd, if_neg hn]⟩
      rw [hd'] at c6; clear hd hd'
      rw [E.out]
      go_enter Tryz.func18, Tryz.ntmps18
      go_wp2
      · go_ret
        have hm : max 0 keep = keep := by omega
        exact ⟨rfl, (((HF.out.set3 n).set4 keep).set5 mask).to (by rw [hm]), (((Upd.refl _ _).setCell (by simp) _).setCell (by simp) _).setCell (by simp) _⟩
      · go_ret
        have hm : max 0 keep = 0 := by omega
        exact ⟨rfl, (((HF.out.set3 n).set4 0).set5 mask).to (by rw [hm]), (((Upd.refl _ _).setCell (by simp) _).setCell (by simp) _).setCell (by simp) _⟩
set_option maxHeartbeats 1000000 in
theorem read_any (p bb cb : Nat) (s : FS) (at_ n : Int) (w : World) (h : Fl 89 w p bb cb s) (hok : s.Ok) (ba : -9223372036854775808 ≤ at_ ∧ at_ ≤ 9223372036854775807) (bn : -9223372036854775808 ≤ n ∧ n ≤ 9223372036854775807) :
    Calls Tryz.prog 60 #[.pointer (some ⟨p, 0, none⟩), .int .i64 at_, .int .i64 n] w fun e w' => e = .returned (if s.dead then .tuple #[.string ⟨#[]⟩, .int .i64 2] else if onB s.b.length at_ n then .tuple #[.string ⟨((s.b.drop at_.toNat).take n.toNat).toArray⟩, .int .i64 0] else .tuple #[.string ⟨#[]⟩, .int .i64 111]) ∧ w = w' := by
  have HF := Box.mk h
  obtain ⟨bcap, ccap, hb, hc, c0, c1, c2, c3, c4, c5, c6⟩ := h.cells
  have hby := Box.mk (fun j u hu => (h.byte j u hu).1)
  clear c1 c2 c3 c4 c5 hc h
  by_cases hd : s.dead = true
  · rw [if_pos hd]
    rw [hd] at c6; clear hd
    go_enter Tryz.func60, Tryz.ntmps60
    go_wp2
    go_ret2
    exact ⟨rfl, rfl⟩
  · rw [if_neg hd]
    have hd' : s.dead = false := by simpa using hd
    rw [hd'] at c6; clear hd hd'
    by_cases ho : onB s.b.length at_ n = true
    · rw [if_pos ho]
      have hon : 0 ≤ at_ ∧ 0 ≤ n ∧ at_ + n ≤ s.b.length := by unfold onB at ho; simpa using ho
      obtain ⟨A, rfl⟩ := Int.eq_ofNat_of_zero_le hon.1
      obtain ⟨N, rfl⟩ := Int.eq_ofNat_of_zero_le hon.2.1
      have hlb : (s.b.length : Int) ≤ 131072 := by have := hok.len; have := hok.few; omega
      have hln : ((s.b.drop A).take N).length = N := by simp; omega
      have hcv := run_bytes_at Tryz.prog w bb A (bcap - A) ((s.b.drop A).take N) 22 9 5 N hln Tryz.underlying22 Tryz.underlying5 Tryz.underlying9 (fun j u hu => by
        have hj : j < N := by have := (List.getElem?_eq_some_iff.1 hu).1; rw [hln] at this; exact this
        rw [List.getElem?_take, if_pos hj, List.getElem?_drop] at hu
        exact hby.out _ _ hu)
      have HO := Box.mk ho; clear ho hln hby
      have hbI : ((s.b.length : Nat) : Int) ≤ (bcap : Int) := by omega
      have hANI : (A : Int) + (N : Int) ≤ (bcap : Int) := by omega
      go_enter Tryz.func60, Tryz.ntmps60
      go_wp2_with fail
      refine (within_any p bb cb s A N _ HF.out hok (by omega) (by omega)).mono ?_
      rintro e w1 ⟨rfl, rfl⟩
      rw [HO.out]
      have hcv2 : bcap = A → (convert 22 9 (.slice (some ⟨bb, 0, none⟩) N 0)).run Tryz.prog w = .ok (.string ⟨((s.b.drop A).take N).toArray⟩) w := fun e => by
        have hN : N = 0 := by omega
        subst hN
        have := run_bytes_at Tryz.prog w bb 0 0 [] 22 9 5 0 rfl Tryz.underlying22 Tryz.underlying5 Tryz.underlying9 (fun j u hu => by simp at hu)
        rw [this]; simp
      by_cases hcA : bcap = A
      · have hcv2 := hcv2 hcA
        go_wp2
        go_ret2
        exact ⟨rfl, rfl⟩
      · clear hcv2
        go_wp2
        go_ret2
        exact ⟨rfl, rfl⟩
    · rw [if_neg ho]
      have ho' : onB s.b.length at_ n = false := by simpa using ho
      have HO := Box.mk ho'; clear ho ho' hby
      go_enter Tryz.func60, Tryz.ntmps60
      go_wp2_with fail
      refine (within_any p bb cb s at_ n _ HF.out hok ba bn).mono ?_
      rintro e w1 ⟨rfl, rfl⟩
      rw [HO.out]
      go_wp2
      go_ret2
      exact ⟨rfl, rfl⟩
end Go.Proofs.YtjednaendedpdaaGreat
