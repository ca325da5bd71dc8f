/- Small laws that the texts of this place share: worlds, carries, bits. Nothing of the program. Regions that draw their order and hold loads, calls that make memory, and new blocks, ahead of a tail of stores: one walk in the order of the text serves every order. The world is a variable throughout: it has grown out of the one in which the region began. Nothing of the program. As XMix; a block that floats may be a slice's too. Nothing of the program. Made by gen/mixv.py. Memory: what a store does to a block; worlds that differ in named blocks alone. The flash: its state, how it lies in memory; what reads or writes its fields alone. The flash: Program, as a function of its state, and the program's own. -/
import Derived.WalkKit
import Derived.WalkLawsBesides
import Derived.WalkSpells
import Derived.Handy
import Derived.RegionTactic
import Derived.BigRegion
import Derived.Deep.QuietTactic
import Derived.BigQuiet
import Derived.StillTailTactics
import Derived.Shelf.Spec.BitsCarry
import Derived.StillTail
import Derived.Laws.Rows
import Derived.Laws.CopyOwn
import Derived.Test.YtjednaendedpdaaGreatRows
namespace Go.Proofs.YtjednaendedpdaaGreat
set_option maxRecDepth 100000
set_option linter.unusedVariables false
open Go Go.RowKit

/-- A fact kept from the walk, behind a structure that nothing unfolds. -/
structure Box (p : Prop) : Prop where
  out : p

/-- All old cells and all old marks read as before. -/
theorem bcell {W w1 : World} (hb : Below W.heap.size W w1) : (∀ b o, b < W.heap.size → w1.cell? ⟨b, o, none⟩ = W.cell? ⟨b, o, none⟩) ∧ (∀ b o, b < W.heap.size → w1.frozen? ⟨b, o, none⟩ = W.frozen? ⟨b, o, none⟩) :=
  ⟨fun b o h => hb.cell (p := ⟨b, o, none⟩) h, fun b o h => hb.frozen (p := ⟨b, o, none⟩) h⟩

/-- Two blocks of the call's own, behind a call that kept them. -/
theorem two_new {w w1 : World} {A B : Obj} (h : Below ((w.alloc A).alloc B).heap.size ((w.alloc A).alloc B) w1) :
    w1.heap[w.heap.size]? = some A ∧ w1.heap[w.heap.size + 1]? = some B ∧ Below w.heap.size w w1 ∧ w.heap.size + 2 ≤ w1.heap.size := by
  have hz := h.size
  simp only [World.size_alloc] at hz
  refine ⟨?_, ?_, (((Below.refl _ _).alloc (Nat.le_refl _) _).alloc (by simp) _).trans (h.mono (by simp; omega)), hz⟩
  · rw [h.block w.heap.size (by simp; omega), heap_alloc_old _ _ (by simp), heap_alloc_new]
  · have := heap_alloc_new (w.alloc A) B
    rw [World.size_alloc] at this
    rw [h.block (w.heap.size + 1) (by simp), this]

/-- Limb i of a number, in words of 64 bits. -/
@[irreducible] def limb (n i : Nat) : Int := ((n / 2 ^ (64 * i) % 18446744073709551616 : Nat) : Int)
theorem limb_bd (n i : Nat) : 0 ≤ limb n i ∧ limb n i < 18446744073709551616 := by unfold limb; omega

theorem int_congr {k : IntKind} {a b : Int} (h : a = b) : Value.int k a = Value.int k b := by rw [h]
theorem agg4_congr {k : IntKind} {a b c d a' b' c' d' : Int} (h0 : a = a') (h1 : b = b') (h2 : c = c') (h3 : d = d') :
    Value.agg #[.int k a, .int k b, .int k c, .int k d] = Value.agg #[.int k a', .int k b', .int k c', .int k d'] := by rw [h0, h1, h2, h3]

/-- A sum with a carry, of words. -/
theorem add64_ex (P : Program) (f : FuncId) (fn : Func) (hf : P.funcs[f]? = some fn) (hname : (fn.name == "runtime.NumGoroutine") = false)
    (hb : fn.body.isNone = true) (hn : Extern.findNext fn = none) (he : Extern.find fn = some add64Entry) (x y c : Int)
    (hx : 0 ≤ x ∧ x < 18446744073709551616) (hy : 0 ≤ y ∧ y < 18446744073709551616) (hc : 0 ≤ c ∧ c ≤ 1) :
    ∃ s o : Int, (∀ w, (callFunc f #[.int .u64 x, .int .u64 y, .int .u64 c]).run P w = .ok (.value (.tuple #[.int .u64 s, .int .u64 o])) w) ∧
      (0 ≤ s ∧ s < 18446744073709551616) ∧ (0 ≤ o ∧ o ≤ 1) ∧ s + 18446744073709551616 * o = x + y + c := by
  refine ⟨(x + y + c) % 18446744073709551616, (x + y + c) / 18446744073709551616, fun w => ?_, by omega, by omega, by omega⟩
  rw [run_callFunc_extern hf hname hb hn he, run_add64 x y c (by omega) (by omega) (by omega) (by omega)]
  rfl

/-- A difference with a borrow, of words. -/
theorem sub64_ex (P : Program) (f : FuncId) (fn : Func) (hf : P.funcs[f]? = some fn) (hname : (fn.name == "runtime.NumGoroutine") = false)
    (hb : fn.body.isNone = true) (hn : Extern.findNext fn = none) (he : Extern.find fn = some sub64Entry) (x y c : Int)
    (hx : 0 ≤ x ∧ x < 18446744073709551616) (hy : 0 ≤ y ∧ y < 18446744073709551616) (hc : 0 ≤ c ∧ c ≤ 1) :
    ∃ s o : Int, (∀ w, (callFunc f #[.int .u64 x, .int .u64 y, .int .u64 c]).run P w = .ok (.value (.tuple #[.int .u64 s, .int .u64 o])) w) ∧
      (0 ≤ s ∧ s < 18446744073709551616) ∧ (0 ≤ o ∧ o ≤ 1) ∧ s = x - y - c + 18446744073709551616 * o := by
  obtain ⟨x, rfl⟩ := Int.eq_ofNat_of_zero_le hx.1
  obtain ⟨y, rfl⟩ := Int.eq_ofNat_of_zero_le hy.1
  obtain ⟨c, rfl⟩ := Int.eq_ofNat_of_zero_le hc.1
  refine ⟨_, _, fun w => by rw [run_callFunc_extern hf hname hb hn he, run_sub64 x y c (by omega)]; rfl, by omega, ?_, ?_⟩
  · split <;> omega
  · split <;> omega

/-- Twice a word, and a bit. -/
theorem or_bit (a b : Int) (ha : 0 ≤ a ∧ a < 18446744073709551616) (hb : 0 ≤ b ∧ b ≤ 1) :
    bits .or .u64 (IntKind.u64.wrap (a * 2)) b = a * 2 % 18446744073709551616 + b := by
  obtain ⟨a, rfl⟩ := Int.eq_ofNat_of_zero_le ha.1
  obtain ⟨b, rfl⟩ := Int.eq_ofNat_of_zero_le hb.1
  rw [IntKind.wrap_u64, show ((a : Int) * 2 % 18446744073709551616) = ((a * 2 % 18446744073709551616 : Nat) : Int) from by omega,
    u64_or_nat _ _ (by omega) (by omega), nat_join 1 _ _ (by omega) (by omega)]
  omega

/-- string(b) of a row of bytes. -/
theorem run_bytes_of_row (P : Program) (w : World) (b cap : Nat) (l : List UInt8) (t src dst e : TypeId) (n : Nat) (hn : l.length = n)
    (hs : P.underlying src = some (.slice e)) (he : P.underlying e = some (.int .u8)) (hd : P.underlying dst = some .string)
    (hg : w.heap[b]? = some (.cells (l.map fun u => Value.int .u8 (u.toNat : Int)).toArray t (0, 0))) :
    (convert src dst (.slice (some ⟨b, 0, none⟩) n cap)).run P w = .ok (.string ⟨l.toArray⟩) w := by
  subst hn
  rw [run_convert_bytes_string w src dst e _ _ _ hs he hd]
  have h := run_loadCells_list (P := P) (w := w) ⟨b, 0, none⟩ ((l.map fun u => (u.toNat : Int)).map (Value.int .u8)) (by
    intro j v hj
    have : (⟨b, 0, none⟩ : Addr).add j = ⟨b, j, none⟩ := by unfold Addr.add; split <;> simp_all
    rw [this, cell_of_row w b j _ t (0, 0) hg]
    simpa [List.map_map, Function.comp_def] using hj)
  rw [List.length_map, List.length_map] at h
  rw [run_bytesToString w _ _ _ _ h]
  have : ∀ (l : List UInt8) (acc : ByteArray), (l.map fun u => (u.toNat : Int)).foldl (fun r n => r.push (UInt8.ofNat n.toNat)) acc = ⟨(acc.data.toList ++ l).toArray⟩ := by
    intro l
    induction l with
    | nil => intro acc; simp
    | cons c l ih => intro acc; simp only [List.map_cons, List.foldl_cons]; rw [ih]; simp [ByteArray.push]
  rw [this]
  rfl

/-- A quiet call, in a region that draws. -/
theorem quiet_calls {P : Program} {f : FuncId} {args : Array Value} {w : World} {n : Nat} {v : Value}
    (h : Calls P f args (w.drewN n) fun e w' => e = .returned v ∧ w.drewN n = w') : Calls P f args (w.drewN n) fun e w'' => e = .returned v ∧ ∃ m, w'' = w.drewN m :=
  h.mono fun _ _ ⟨he, hm⟩ => ⟨he, n, hm.symm⟩
end Go.Proofs.YtjednaendedpdaaGreat
namespace Go.Proofs.YtjednaendedpdaaGreat
set_option maxRecDepth 100000
set_option linter.unusedVariables false
open Go Go.RowKit

/-- The world has grown: what was there stands. -/
def Gr (w w' : World) : Prop := Below w.heap.size w w'
theorem Gr.refl (w : World) : Gr w w := Below.refl _ _
theorem Gr.size {w w' : World} (h : Gr w w') : w.heap.size ≤ w'.heap.size := Below.size h
theorem Gr.trans {a b c : World} (h : Gr a b) (k : Gr b c) : Gr a c := Below.trans h (Below.mono k h.size)
theorem Gr.alloc (w : World) (o : Obj) : Gr w (w.alloc o) := (Below.refl _ _).alloc (Nat.le_refl _) o
theorem Gr.block {w w' : World} (h : Gr w w') {b : Nat} {x : Obj} (hb : w.heap[b]? = some x) : w'.heap[b]? = some x :=
  (Below.block h b (Array.getElem?_eq_some_iff.1 hb).1).trans hb
theorem Gr.lt {w w' : World} (h : Gr w w') {b : Nat} (hb : b < w.heap.size) : b < w'.heap.size := Nat.lt_of_lt_of_le hb h.size
theorem Gr.below {w w' : World} (h : Gr w w') : Below w.heap.size w w' := h
theorem Gr.of {w w' : World} (h : Below w.heap.size w w') : Gr w w' := h
theorem Gr.blt {w : World} {b : Nat} {x : Obj} (hb : w.heap[b]? = some x) : b < w.heap.size := (Array.getElem?_eq_some_iff.1 hb).1

theorem Gr.setRow {w w' : World} (h : Gr w w') {b : Nat} (hb : w.heap.size ≤ b) (cs : Array Value) : Gr w (w'.setRow b cs) := below_setRow h hb cs
/-- The same but for some blocks. -/
structure GrS (S : List Nat) (w w' : World) : Prop where
  os : w'.os = w.os
  tape : w'.tape = w.tape
  output : w'.output = w.output
  size : w.heap.size ≤ w'.heap.size
  block : ∀ k, k < w.heap.size → k ∉ S → w'.heap[k]? = w.heap[k]?
theorem Gr.toS {w w' : World} (h : Gr w w') (S : List Nat) : GrS S w w' := ⟨h.os, h.tape, h.output, Below.size h, fun k hk _ => Below.block h k hk⟩
theorem GrS.toGr {w w' : World} (h : GrS [] w w') : Gr w w' := ⟨h.os, h.tape, h.output, h.size, fun k hk => h.block k hk (fun h => by cases h)⟩
theorem GrS.refl (S : List Nat) (w : World) : GrS S w w := (Gr.refl w).toS S
theorem GrS.trans {S : List Nat} {a b c : World} (h : GrS S a b) (k : GrS S b c) : GrS S a c :=
  ⟨k.os.trans h.os, k.tape.trans h.tape, k.output.trans h.output, Nat.le_trans h.size k.size, fun i hi hn => (k.block i (Nat.lt_of_lt_of_le hi h.size) hn).trans (h.block i hi hn)⟩
theorem GrS.at {S : List Nat} {w w' : World} (h : GrS S w w') {b : Nat} (hn : b ∉ S) {x : Obj} (hb : w.heap[b]? = some x) : w'.heap[b]? = some x :=
  (h.block b (Array.getElem?_eq_some_iff.1 hb).1 hn).trans hb
theorem GrS.lt {S : List Nat} {w w' : World} (h : GrS S w w') {b : Nat} (hb : b < w.heap.size) : b < w'.heap.size := Nat.lt_of_lt_of_le hb h.size
theorem GrS.setRow {S : List Nat} {w w' : World} (h : GrS S w w') {b : Nat} (hb : w.heap.size ≤ b ∨ b ∈ S) (cs : Array Value) : GrS S w (w'.setRow b cs) :=
  ⟨by rw [setRow_os]; exact h.os, by rw [setRow_tape]; exact h.tape, by rw [setRow_output]; exact h.output, by rw [setRow_size]; exact h.size, fun k hk hn => by
    rw [setRow_other _ _ _ _ (fun e => by
      rcases hb with hb | hb
      · omega
      · exact hn (e ▸ hb))]; exact h.block k hk hn⟩
/-- .. or but for some blocks that are new. -/
def GrD (S N : List Nat) (w w' : World) : Prop := ∃ D, (∀ d ∈ D, d ∈ N) ∧ GrS (S ++ D) w w'
theorem GrS.d {S N : List Nat} {w w' : World} (h : GrS S w w') : GrD S N w w' := ⟨[], (fun _ h => by cases h), by rw [List.append_nil]; exact h⟩
theorem GrD.sub {S N N' : List Nat} {w w' : World} (h : GrD S N w w') (hn : ∀ b, b ∈ N → b ∈ N') : GrD S N' w w' := by
  obtain ⟨D, h1, h2⟩ := h
  exact ⟨D, fun d hd => hn d (h1 d hd), h2⟩
theorem GrD.size {S N : List Nat} {w w' : World} (h : GrD S N w w') : w.heap.size ≤ w'.heap.size := h.elim fun _ h => h.2.size
theorem GrD.lt {S N : List Nat} {w w' : World} (h : GrD S N w w') {b : Nat} (hb : b < w.heap.size) : b < w'.heap.size := Nat.lt_of_lt_of_le hb h.size
theorem GrD.at {S N : List Nat} {w w' : World} (h : GrD S N w w') {b : Nat} (hn : b ∉ S) (hn' : b ∉ N) {x : Obj} (hb : w.heap[b]? = some x) : w'.heap[b]? = some x := by
  obtain ⟨D, h1, h2⟩ := h
  exact h2.at (fun h => (List.mem_append.1 h).elim hn (fun h => hn' (h1 _ h))) hb
theorem GrD.trans {S N : List Nat} {a b c : World} (h : GrS S a b) (k : GrD S N b c) (hn : ∀ x ∈ N, a.heap.size ≤ x) : GrS S a c := by
  obtain ⟨D, h1, h2⟩ := k
  exact ⟨h2.os.trans h.os, h2.tape.trans h.tape, h2.output.trans h.output, Nat.le_trans h.size h2.size, fun i hi hs => (h2.block i (Nat.lt_of_lt_of_le hi h.size) (fun hm => (List.mem_append.1 hm).elim hs (fun hm => by have := hn i (h1 i hm); omega))).trans (h.block i hi hs)⟩
/-- What an operation of a region is: it yields one value in every world; it is a call; it makes a block. -/
inductive Kd where
  | flo
  | cha
  | new (X : Obj)
def Kd.isFlo : Kd → Bool | .flo => true | _ => false
def Kd.isCha : Kd → Bool | .cha => true | _ => false
/-- What stays true as the world grows. -/
def Stb (F : World → Prop) : Prop := ∀ w w', Gr w w' → F w → F w'

section
variable {P : Program} {W : World} {S : List Nat} {ops : Array Oper}

def yieldsG (P : Program) (W : World) (S : List Nat) (o : Oper) (a : Act) (v : Value) : Prop := ∀ w, GrS S W w → (execOp a.eval o).run P w = .ok (.value v) w ∨ ((execOp a.eval o).run P w = .ok .skip w ∧ v = undef)
def makesG (P : Program) (W : World) (S : List Nat) (o : Oper) (a : Act) (X : Obj) : Prop :=
  ∀ w, GrS S W w → (execOp a.eval o).run P w = .ok (.value (.pointer (some ⟨w.heap.size, 0, none⟩))) (w.alloc X)
/-- A call that comes back, or a store. -/
def steps (P : Program) (S : List Nat) (o : Oper) (a : Act) (w : World) (R : Value → World → Prop) : Prop :=
  (∃ f args, (execOp a.eval o).run P w = .ok (.enter f args) w ∧ Calls P f args w (fun e w' => ∃ v, e = .returned v ∧ R v w')) ∨
  (∃ w', (execOp a.eval o).run P w = .ok .skip w' ∧ R undef w') ∨ (∃ v w', (execOp a.eval o).run P w = .ok (.value v) w' ∧ R v w')
theorem steps.mono {o : Oper} {a : Act} {w : World} {R R' : Value → World → Prop} (h : steps P S o a w R) (hr : ∀ v w', R v w' → R' v w') : steps P S o a w R' := by
  rcases h with ⟨f, args, he, hc⟩ | ⟨w', he, h⟩ | ⟨v, w', he, h⟩
  · exact .inl ⟨f, args, he, hc.mono fun _ _ ⟨v, hv, h⟩ => ⟨v, hv, hr _ _ h⟩⟩
  · exact .inr (.inl ⟨w', he, hr _ _ h⟩)
  · exact .inr (.inr ⟨v, w', he, hr _ _ h⟩)
theorem steps.some {o : Oper} {a : Act} {w : World} {R : Value → World → Prop} (h : steps P S o a w R) : ∃ v w', R v w' := by
  rcases h with ⟨f, args, _, hc⟩ | ⟨w', _, h⟩ | ⟨v, w', _, h⟩
  · obtain ⟨_, w', _, ⟨v, _, h⟩, _⟩ := hc []
    exact ⟨v, w', h⟩
  · exact ⟨_, w', h⟩
  · exact ⟨_, w', h⟩
theorem steps.congr {o : Oper} {a a' : Act} {w : World} {R : Value → World → Prop} (he : execOp a'.eval o = execOp a.eval o) (h : steps P S o a w R) : steps P S o a' w R := by
  unfold steps at h ⊢; rw [he]; exact h
theorem steps.wp {o : Oper} {a : Act} {w : World} {R : Value → World → Prop} {K : Act → World → Prop} {Q : Exit → Act → World → Prop} (h : steps P S o a w R) (hk : ∀ v w', R v w' → K (a.put o.dst v) w') : o.wp P a w K Q := by
  unfold Oper.wp
  rcases h with ⟨f, args, he, hc⟩ | ⟨w', he, h⟩ | ⟨v, w', he, h⟩
  · rw [he]; exact hc.mono fun e w' ⟨v, hv, h⟩ => by subst hv; exact hk _ _ h
  · rw [he]; exact hk _ _ h
  · rw [he]; exact hk _ _ h
def wpG (P : Program) (W : World) (S : List Nat) (T : (World → Prop) → List Nat → Act → Prop) : List (Oper × Kd) → (World → Prop) → List Nat → Act → Prop
  | [], F, N, a => T F N a
  | (o, .flo) :: L, F, N, a => ∃ v, yieldsG P W S o a v ∧ wpG P W S T L F N (a.put o.dst v)
  | (o, .new X) :: L, F, N, a => makesG P W S o a X ∧ ∀ b, W.heap.size ≤ b → b ∉ N → wpG P W S T L (fun w => F w ∧ w.heap[b]? = some X) (b :: N) (a.put o.dst (.pointer (some ⟨b, 0, none⟩)))
  | (o, .cha) :: L, F, N, a => ∀ w, GrS S W w → F w → steps P S o a w (fun v w' => GrD S N w w' ∧ ∃ F' N', Stb F' ∧ F' w' ∧ (∀ b ∈ N', w.heap.size ≤ b ∧ b < w'.heap.size) ∧ wpG P W S T L F' (N' ++ N) (a.put o.dst v))

theorem Stb.tt : Stb (fun _ => True) := fun _ _ _ _ => trivial
theorem Stb.row (b : Nat) (X : Obj) : Stb (fun w => True ∧ w.heap[b]? = some X) := fun _ _ hg h => ⟨trivial, hg.block h.2⟩
theorem Stb.new {F : World → Prop} (h : Stb F) (b : Nat) (X : Obj) : Stb (fun w => F w ∧ w.heap[b]? = some X) :=
  fun w w' hg ⟨h1, h2⟩ => ⟨h w w' hg h1, hg.block h2⟩
theorem wpG_sub {P : Program} {W : World} {S : List Nat} {T : (World → Prop) → List Nat → Act → Prop} (hT : ∀ F N N' a, (∀ b, b ∈ N → b ∈ N') → T F N a → T F N' a) : ∀ (L : List (Oper × Kd)) (F : World → Prop) (N N' : List Nat) (a : Act), (∀ b, b ∈ N → b ∈ N') → wpG P W S T L F N a → wpG P W S T L F N' a
  | [], F, N, N', a, h, hg => hT F N N' a h hg
  | (o, .flo) :: L, F, N, N', a, h, ⟨v, hv, hg⟩ => ⟨v, hv, wpG_sub hT L F N N' _ h hg⟩
  | (o, .new X) :: L, F, N, N', a, h, ⟨hm, hg⟩ => ⟨hm, fun b hb hn => wpG_sub hT L _ (b :: N) (b :: N') _ (fun c hc => by
      rcases List.mem_cons.1 hc with h' | h'
      · exact h' ▸ List.mem_cons_self
      · exact List.mem_cons_of_mem _ (h c h')) (hg b hb (fun h' => hn (h b h')))⟩
  | (o, .cha) :: L, F, N, N', a, h, hg => fun w hw hF => by
    refine (hg w hw hF).mono fun v w' ⟨hgr, F', M, hs, hF', hl, h'⟩ => ⟨hgr.sub h, F', M, hs, hF', hl, wpG_sub hT L F' (M ++ N) (M ++ N') _ (fun b hb => ?_) h'⟩
    rcases List.mem_append.1 hb with h' | h'
    · exact List.mem_append_left _ h'
    · exact List.mem_append_right _ (h b h')
theorem and_swap3 (F : World → Prop) (p q : World → Prop) : (fun w => (F w ∧ p w) ∧ q w) = (fun w => (F w ∧ q w) ∧ p w) := by
  funext w; exact propext ⟨fun ⟨⟨a, b⟩, c⟩ => ⟨⟨a, c⟩, b⟩, fun ⟨⟨a, b⟩, c⟩ => ⟨⟨a, c⟩, b⟩⟩

structure Apt (ops : Array Oper) (j i : Oper) : Prop where
  ap : j.apart ops i = true
  sj : ∀ cs b, j.op ≠ .select cs b
  si : ∀ cs b, i.op ≠ .select cs b
theorem Apt.exec_i {i j : Oper} (h : Apt ops j i) (a : Act) (u : Value) : execOp (a.put j.dst u).eval i = execOp a.eval i :=
  execOp_put i h.si a j.dst u (Oper.apart_spec h.ap).1
theorem Apt.exec_j {i j : Oper} (h : Apt ops j i) (a : Act) (u : Value) : execOp (a.put i.dst u).eval j = execOp a.eval j :=
  execOp_put j h.sj a i.dst u (Oper.apart_spec h.ap).2.2
theorem Apt.comm {i j : Oper} (h : Apt ops j i) (a : Act) (u v : Value) : (a.put j.dst u).put i.dst v = (a.put i.dst v).put j.dst u :=
  Act.put_comm a u v (Oper.apart_spec h.ap).2.1

variable {T : (World → Prop) → List Nat → Act → Prop} {oi : Oper}


/-- What is known of a world on the way. -/
structure Known (W : World) (S : List Nat) (F : World → Prop) (N : List Nat) (w : World) : Prop where
  st : Stb F
  gr : GrS S W w
  fa : F w
  lt : ∀ b ∈ N, b < w.heap.size
  ge : ∀ b ∈ N, W.heap.size ≤ b
theorem Known.new {F : World → Prop} {N : List Nat} {w : World} (h : Known W S F N w) (X : Obj) : Known W S (fun x => F x ∧ x.heap[w.heap.size]? = some X) (w.heap.size :: N) (w.alloc X) :=
  ⟨h.st.new _ X, h.gr.trans ((Gr.alloc _ _).toS S), ⟨h.st _ _ (Gr.alloc _ _) h.fa, heap_alloc_new _ _⟩, fun b hb => by
    rcases List.mem_cons.1 hb with h' | h'
    · subst h'; simp
    · have := h.lt b h'; simp; omega, fun b hb => by
    rcases List.mem_cons.1 hb with h' | h'
    · subst h'; exact h.gr.size
    · exact h.ge b h'⟩
theorem Known.fresh {F : World → Prop} {N : List Nat} {w : World} (h : Known W S F N w) : w.heap.size ∉ N := fun hb => Nat.lt_irrefl _ (h.lt _ hb)
theorem Known.call {F F' : World → Prop} {N M : List Nat} {w w' : World} (h : Known W S F N w) (hg : GrD S N w w') (hs : Stb F') (hF : F' w') (hl : ∀ b ∈ M, w.heap.size ≤ b ∧ b < w'.heap.size) : Known W S F' (M ++ N) w' :=
  ⟨hs, hg.trans h.gr h.ge, hF, fun b hb => by
    rcases List.mem_append.1 hb with h' | h'
    · exact (hl b h').2
    · exact hg.lt (h.lt b h'), fun b hb => by
    rcases List.mem_append.1 hb with h' | h'
    · exact Nat.le_trans h.gr.size (hl b h').1
    · exact h.ge b h'⟩

theorem ex_flo {B : List (Oper × Kd)} : ∀ (A : List (Oper × Kd)), (∀ p ∈ A, Apt ops p.1 oi) → ∀ (F : World → Prop) (N : List Nat) (a : Act) (w : World), Known W S F N w → wpG P W S T (A ++ (oi, .flo) :: B) F N a → ∃ v, yieldsG P W S oi a v
  | [], _, _, _, _, _, _, ⟨v, h, _⟩ => ⟨v, h⟩
  | (oj, .flo) :: A, hA, F, N, a, w, hk, ⟨u, _, h⟩ => by
    obtain ⟨v, hv⟩ := ex_flo A (fun p hp => hA p (List.mem_cons_of_mem _ hp)) F N _ w hk h
    exact ⟨v, fun x hx => by have := hv x hx; rwa [(hA _ List.mem_cons_self).exec_i] at this⟩
  | (oj, .new X) :: A, hA, F, N, a, w, hk, ⟨_, h⟩ => by
    obtain ⟨v, hv⟩ := ex_flo A (fun p hp => hA p (List.mem_cons_of_mem _ hp)) _ _ _ (w.alloc X) (hk.new X) (h w.heap.size hk.gr.size hk.fresh)
    exact ⟨v, fun x hx => by have := hv x hx; rwa [(hA _ List.mem_cons_self).exec_i] at this⟩
  | (oj, .cha) :: A, hA, F, N, a, w, hk, h => by
    obtain ⟨u, w', hg, F', M, hs', hF', hl, h'⟩ := (h w hk.gr hk.fa).some
    obtain ⟨v, hv⟩ := ex_flo A (fun p hp => hA p (List.mem_cons_of_mem _ hp)) F' _ _ w' (hk.call hg hs' hF' hl) h'
    exact ⟨v, fun x hx => by have := hv x hx; rwa [(hA _ List.mem_cons_self).exec_i] at this⟩

theorem rem_flo {v : Value} {B : List (Oper × Kd)} : ∀ (A : List (Oper × Kd)), (∀ p ∈ A, Apt ops p.1 oi) → ∀ (F : World → Prop) (N : List Nat) (a : Act), yieldsG P W S oi a v → wpG P W S T (A ++ (oi, .flo) :: B) F N a → wpG P W S T (A ++ B) F N (a.put oi.dst v)
  | [], _, _, _, a, hv, ⟨v', h', hg⟩ => by
    have e : v = v' := by
      rcases hv W (GrS.refl _ _) with h1 | ⟨h1, e1⟩ <;> rcases h' W (GrS.refl _ _) with h2 | ⟨h2, e2⟩ <;> rw [h1] at h2
      · injection h2 with h3; injection h3
      · injection h2 with h3; cases h3
      · injection h2 with h3; cases h3
      · rw [e1, e2]
    subst e
    exact hg
  | (oj, .flo) :: A, hA, F, N, a, hv, ⟨u, hu, h⟩ => by
    have hj := hA _ List.mem_cons_self
    refine ⟨u, fun x hx => by rw [hj.exec_j]; exact hu x hx, ?_⟩
    rw [← hj.comm]
    exact rem_flo A (fun p hp => hA p (List.mem_cons_of_mem _ hp)) F N _ (fun x hx => by rw [hj.exec_i]; exact hv x hx) h
  | (oj, .new X) :: A, hA, F, N, a, hv, ⟨hm, h⟩ => by
    have hj := hA _ List.mem_cons_self
    refine ⟨fun x hx => by rw [hj.exec_j]; exact hm x hx, fun b hb hn => ?_⟩
    rw [← hj.comm]
    exact rem_flo A (fun p hp => hA p (List.mem_cons_of_mem _ hp)) _ _ _ (fun x hx => by rw [hj.exec_i]; exact hv x hx) (h b hb hn)
  | (oj, .cha) :: A, hA, F, N, a, hv, h => by
    have hj := hA _ List.mem_cons_self
    intro w hw hF
    refine ((h w hw hF).congr (hj.exec_j _ _)).mono fun u w' ⟨hg, F', M, hs', hF', hl, h'⟩ => ⟨hg, F', M, hs', hF', hl, ?_⟩
    rw [← hj.comm]
    exact rem_flo A (fun p hp => hA p (List.mem_cons_of_mem _ hp)) F' _ _ (fun x hx => by rw [hj.exec_i]; exact hv x hx) h'

theorem ex_new {X : Obj} {B : List (Oper × Kd)} : ∀ (A : List (Oper × Kd)), (∀ p ∈ A, Apt ops p.1 oi) → ∀ (F : World → Prop) (N : List Nat) (a : Act) (w : World), Known W S F N w → wpG P W S T (A ++ (oi, .new X) :: B) F N a → makesG P W S oi a X
  | [], _, _, _, _, _, _, ⟨h, _⟩ => h
  | (oj, .flo) :: A, hA, F, N, a, w, hk, ⟨u, _, h⟩ => by
    have hv := ex_new A (fun p hp => hA p (List.mem_cons_of_mem _ hp)) F N _ w hk h
    exact fun x hx => by have := hv x hx; rwa [(hA _ List.mem_cons_self).exec_i] at this
  | (oj, .new Y) :: A, hA, F, N, a, w, hk, ⟨_, h⟩ => by
    have hv := ex_new A (fun p hp => hA p (List.mem_cons_of_mem _ hp)) _ _ _ (w.alloc Y) (hk.new Y) (h w.heap.size hk.gr.size hk.fresh)
    exact fun x hx => by have := hv x hx; rwa [(hA _ List.mem_cons_self).exec_i] at this
  | (oj, .cha) :: A, hA, F, N, a, w, hk, h => by
    obtain ⟨u, w', hg, F', M, hs', hF', hl, h'⟩ := (h w hk.gr hk.fa).some
    have hv := ex_new A (fun p hp => hA p (List.mem_cons_of_mem _ hp)) F' _ _ w' (hk.call hg hs' hF' hl) h'
    exact fun x hx => by have := hv x hx; rwa [(hA _ List.mem_cons_self).exec_i] at this

theorem rem_new (hT : ∀ F N N' a, (∀ b, b ∈ N → b ∈ N') → T F N a → T F N' a) (hS : ∀ k ∈ S, k < W.heap.size) {X : Obj} {b : Nat} (hb : W.heap.size ≤ b) {B : List (Oper × Kd)} : ∀ (A : List (Oper × Kd)), (∀ p ∈ A, Apt ops p.1 oi) → ∀ (F : World → Prop) (N : List Nat) (a : Act), b ∉ N → wpG P W S T (A ++ (oi, .new X) :: B) F N a →
    wpG P W S T (A ++ B) (fun w => F w ∧ w.heap[b]? = some X) (b :: N) (a.put oi.dst (.pointer (some ⟨b, 0, none⟩)))
  | [], _, _, _, a, hn, ⟨_, h⟩ => h b hb hn
  | (oj, .flo) :: A, hA, F, N, a, hn, ⟨u, hu, h⟩ => by
    have hj := hA _ List.mem_cons_self
    refine ⟨u, fun x hx => by rw [hj.exec_j]; exact hu x hx, ?_⟩
    rw [← hj.comm]
    exact rem_new hT hS hb A (fun p hp => hA p (List.mem_cons_of_mem _ hp)) F N _ hn h
  | (oj, .new Y) :: A, hA, F, N, a, hn, ⟨hm, h⟩ => by
    have hj := hA _ List.mem_cons_self
    refine ⟨fun x hx => by rw [hj.exec_j]; exact hm x hx, fun b' hb' hn' => ?_⟩
    rw [← hj.comm, and_swap3]
    have hne : b' ≠ b := fun h => hn' (h ▸ List.mem_cons_self)
    refine wpG_sub hT _ _ (b :: b' :: N) (b' :: b :: N) _ (fun c hc => ?_) (rem_new hT hS hb A (fun p hp => hA p (List.mem_cons_of_mem _ hp)) _ (b' :: N) _ (fun h => ?_) (h b' hb' (fun h => hn' (List.mem_cons_of_mem _ h))))
    · simp only [List.mem_cons] at hc ⊢; rcases hc with h | h | h <;> simp [h]
    · rcases List.mem_cons.1 h with h' | h'
      · exact hne h'.symm
      · exact hn h'
  | (oj, .cha) :: A, hA, F, N, a, hn, h => by
    have hj := hA _ List.mem_cons_self
    intro w hw hF
    refine ((h w hw hF.1).congr (hj.exec_j _ _)).mono fun u w' ⟨hg, F', M, hs', hF', hl, h'⟩ =>
      ⟨hg.sub (fun _ h => List.mem_cons_of_mem _ h), fun x => F' x ∧ x.heap[b]? = some X, M, hs'.new b X, ⟨hF', hg.at (fun h => Nat.lt_irrefl _ (Nat.lt_of_lt_of_le (hS b h) hb)) hn hF.2⟩, hl, ?_⟩
    rw [← hj.comm]
    have hlt := Gr.blt hF.2
    refine wpG_sub hT _ _ (b :: (M ++ N)) (M ++ b :: N) _ (fun c hc => ?_) (rem_new hT hS hb A (fun p hp => hA p (List.mem_cons_of_mem _ hp)) F' (M ++ N) _ (fun h => ?_) h')
    · simp only [List.mem_cons, List.mem_append] at hc ⊢; rcases hc with h | h | h <;> simp [h]
    · rcases List.mem_append.1 h with h' | h'
      · have := hl b h'; omega
      · exact hn h'

theorem rem_cha {B : List (Oper × Kd)} : ∀ (A : List (Oper × Kd)), (∀ p ∈ A, Apt ops p.1 oi ∧ p.2.isFlo = true) → ∀ (F : World → Prop) (N : List Nat) (a : Act), wpG P W S T (A ++ (oi, .cha) :: B) F N a →
    ∀ w, GrS S W w → F w → steps P S oi a w (fun v w' => GrD S N w w' ∧ ∃ F' M, Stb F' ∧ F' w' ∧ (∀ b ∈ M, w.heap.size ≤ b ∧ b < w'.heap.size) ∧ wpG P W S T (A ++ B) F' (M ++ N) (a.put oi.dst v))
  | [], _, _, _, _, h, w, hw, hF => h w hw hF
  | (oj, .flo) :: A, hA, F, N, a, ⟨u, hu, h⟩, w, hw, hF => by
    have hj := (hA _ List.mem_cons_self).1
    refine ((rem_cha A (fun p hp => hA p (List.mem_cons_of_mem _ hp)) F N _ h w hw hF).congr (hj.exec_i a u).symm).mono fun v w' ⟨hg, F', M, hs', hF', hl, h'⟩ => ⟨hg, F', M, hs', hF', hl, u, fun x hx => by rw [hj.exec_j]; exact hu x hx, ?_⟩
    rw [← hj.comm]
    exact h'
  | (oj, .new X) :: A, hA, _, _, _, _, _, _, _ => by have := (hA _ List.mem_cons_self).2; cases this
  | (oj, .cha) :: A, hA, _, _, _, _, _, _, _ => by have := (hA _ List.mem_cons_self).2; cases this

/-- Does i wait for j? -/
def waits (ops : Array Oper) : Nat → Nat → Nat → Bool
  | 0, _, _ => false
  | f + 1, i, j => ((((ops[i]?).map (·.after)).getD #[]).any fun e => Region.binds .any e && e.on == j) || (((ops[i]?).map (·.after)).getD #[]).any fun e => Region.binds .any e && waits ops f e.on j
theorem waits_listed {listed : Array Bool} (hc : ∀ j oj, ops[j]? = some oj → listed.getD j false = true → ∀ e ∈ oj.after, Region.binds .any e = true → listed.getD e.on false = true) {j : Nat} :
    ∀ (f i : Nat) (oi : Oper), ops[i]? = some oi → (∀ e ∈ oi.after, Region.binds .any e = true → listed.getD e.on false = true) → waits ops f i j = true → listed.getD j false = true
  | 0, _, _, _, _, h => by cases h
  | f + 1, i, oi, hi, ha, h => by
    unfold waits at h
    rw [hi] at h
    rcases (Bool.or_eq_true _ _ ▸ h) with h | h
    · obtain ⟨e, he, hb⟩ := Array.any_eq_true'.1 h
      simp only [Bool.and_eq_true, beq_iff_eq] at hb
      rw [← hb.2]; exact ha e he hb.1
    · obtain ⟨e, he, hb⟩ := Array.any_eq_true'.1 h
      simp only [Bool.and_eq_true] at hb
      have hl := ha e he hb.1
      have h' := hb.2
      cases hq : ops[e.on]? with
      | none => cases f <;> simp [waits, hq] at h'
      | some oq => exact waits_listed hc f e.on oq hq (hc _ _ hq hl) h'

def canonL (n g : Nat) : Array Bool := Array.replicate n true ++ Array.replicate g false
/-- The tail waits for all that is ahead of it. -/
def tailB (ops : Array Oper) (n : Nat) : Bool := (List.range ops.size).all fun t => decide (t < n) || (List.range n).all fun i => waits ops (t + 1) t i
def mixB (ops : Array Oper) (n : Nat) (kd : Nat → Kd) : Bool :=
  Region.noSelect ops && decide (n < ops.size) && tailB ops n &&
  (List.range n).all fun i => match ops[i]? with
    | none => false
    | some oi => oi.guard.isNone && oi.after.all (fun e => !Region.binds .any e || decide (e.on < i)) &&
      (List.range i).all fun j => match ops[j]? with
        | none => false
        | some oj => (oj.apart ops oi || waits ops (i + 1) i j) && (!(kd i).isCha || (kd j).isFlo || waits ops (i + 1) i j)

end

section
variable {P : Program} {ops : Array Oper} {W : World} {S : List Nat} {Q : Exit → Act → World → Prop} {T : (World → Prop) → List Nat → Act → Prop}

theorem getD_tf {l : Array Bool} {i : Nat} (h : ¬ l.getD i true = false) (hi : i < l.size) : l.getD i false = true := by
  simp [hi] at h ⊢; exact h

theorem anyG (hS : ∀ k ∈ S, k < W.heap.size) {n g : Nat} {kd : Nat → Kd} (hB : mixB ops n kd = true) (hg : n + g = ops.size) (pr : Nat → Oper × Kd) (hpr : ∀ i o, ops[i]? = some o → pr i = (o, kd i))
    (hTN : ∀ F N N' a, (∀ b, b ∈ N → b ∈ N') → T F N a → T F N' a)
    (hT : ∀ F N a w, T F N a → GrS S W w → F w → wpAny P .any ops Q g (canonL n g) a w) :
    ∀ (m : Nat) (L : List Nat) (listed : Array Bool) (a : Act) (w : World) (F : World → Prop) (N : List Nat), L.length = m → HeadInv .any ops n listed → (∀ i, i ∈ L ↔ i < n ∧ listed.getD i true = false) → L.Pairwise (· < ·) →
      Known W S F N w → wpG P W S T (L.map pr) F N a → wpAny P .any ops Q (m + g) listed a w := by
  simp only [mixB, Bool.and_eq_true, decide_eq_true_eq] at hB
  obtain ⟨⟨⟨hsel, hn⟩, htail⟩, hall⟩ := hB
  have hget : ∀ i, i < n → ∃ oi, ops[i]? = some oi ∧ oi.guard = none ∧ (∀ e ∈ oi.after, Region.binds .any e = true → e.on < i) ∧
      ∀ j, j < i → ∀ oj, ops[j]? = some oj → (oj.apart ops oi || waits ops (i + 1) i j) = true ∧ (!(kd i).isCha || (kd j).isFlo || waits ops (i + 1) i j) = true := by
    intro i hi
    have h1 := List.all_eq_true.1 hall i (List.mem_range.2 hi)
    cases ho : ops[i]? with
    | none => simp [ho] at h1
    | some oi =>
      simp only [ho, Bool.and_eq_true] at h1
      obtain ⟨⟨h2, h3⟩, h4⟩ := h1
      refine ⟨oi, rfl, by simpa using h2, fun e he hb => ?_, fun j hj oj hoj => ?_⟩
      · have := Array.all_eq_true_iff_forall_mem.1 h3 e he
        simp only [hb, Bool.not_true, Bool.false_or, decide_eq_true_eq] at this
        exact this
      · have h5 := List.all_eq_true.1 h4 j (List.mem_range.2 hj)
        simp only [hoj, Bool.and_eq_true] at h5
        exact h5
  intro m
  induction m with
  | zero =>
    intro L listed a w F N hm inv hL _ hkn h
    have hnil : L = [] := List.length_eq_zero_iff.1 hm
    subst hnil
    rw [Nat.zero_add]
    have : listed = canonL n (ops.size - n) := by
      refine Array.ext (by rw [inv.size]; simp [canonL]; omega) fun i h1 h2 => ?_
      rw [inv.size] at h1
      by_cases hi : i < n
      · have h3 : ¬ listed.getD i true = false := fun h => by have := (hL i).2 ⟨hi, h⟩; cases this
        have h4 := getD_tf h3 (by rw [inv.size]; exact h1)
        simp [inv.size, h1] at h4
        simp [canonL, hi, h4]
      · have h4 := inv.tail i (by omega) h1
        simp [inv.size, h1] at h4
        simp [canonL, Array.getElem_append, h4]; omega
    rw [this, show ops.size - n = g by omega]
    exact hT F N a w h hkn.gr hkn.fa
  | succ m ih =>
    intro L listed a w F N hm inv hL hp hkn h
    have hready : ∃ i0, i0 ∈ Region.ready .any ops listed ∧ i0 ∈ L := by
      cases L with
      | nil => simp at hm
      | cons i0 L =>
        have h0 := (hL i0).1 List.mem_cons_self
        obtain ⟨oi, ho, _, ha, _⟩ := hget i0 h0.1
        refine ⟨i0, mem_ready.2 ⟨h0.2, oi, ho, fun e he hb => ?_⟩, List.mem_cons_self⟩
        have hlt := ha e he hb
        refine getD_tf (fun hf => ?_) (by rw [inv.size]; omega)
        have hmem := (hL e.on).2 ⟨by omega, hf⟩
        rcases List.mem_cons.1 hmem with h' | h'
        · omega
        · have := (List.pairwise_cons.1 hp).1 _ h'; omega
    obtain ⟨i0, hr0, hm0⟩ := hready
    rw [show m + 1 + g = (m + g) + 1 by omega]
    refine ⟨fun h => (by rw [h] at hr0; cases hr0), fun i hi => ?_⟩
    have hin : i < n := by
      rcases Nat.lt_or_ge i n with h' | h'
      · exact h'
      · obtain ⟨_, ot, hot, hdt⟩ := mem_ready.1 hi
        have h1 := List.all_eq_true.1 htail i (List.mem_range.2 (Array.getElem?_eq_some_iff.1 hot).1)
        simp only [Bool.or_eq_true, decide_eq_true_eq] at h1
        have h2 := List.all_eq_true.1 (h1.resolve_left (by omega)) i0 (List.mem_range.2 ((hL i0).1 hm0).1)
        have h3 := waits_listed inv.closed (i + 1) i ot hot hdt h2
        rw [getD_both ((hL i0).1 hm0).2] at h3
        cases h3
    obtain ⟨hiun, oi', hoi', hdone⟩ := mem_ready.1 hi
    obtain ⟨oi, hoi, hgu, _, hrel⟩ := hget i hin
    obtain rfl : oi' = oi := Option.some.inj (hoi'.symm.trans hoi)
    have hiL : i ∈ L := (hL i).2 ⟨hin, hiun⟩
    obtain ⟨A, B, rfl⟩ := List.append_of_mem hiL
    have hpair := List.pairwise_append.1 hp
    have hAp : ∀ p ∈ A.map pr, Apt ops p.1 oi' ∧ ((kd i).isCha = true → p.2.isFlo = true) := by
      intro p hpm
      obtain ⟨j, hj, rfl⟩ := List.mem_map.1 hpm
      have hji : j < i := hpair.2.2 j hj i List.mem_cons_self
      have hjL := (hL j).1 (List.mem_append_left _ hj)
      obtain ⟨oj, hoj, _⟩ := hget j hjL.1
      have hno : waits ops (i + 1) i j = false := by
        cases hq : waits ops (i + 1) i j with
        | false => rfl
        | true =>
          have := waits_listed inv.closed (i + 1) i oi' hoi hdone hq
          rw [getD_both hjL.2] at this
          cases this
      have h5 := hrel j hji oj hoj
      rw [hno, Bool.or_false, Bool.or_false] at h5
      rw [hpr j oj hoj]
      refine ⟨⟨h5.1, fun cs b => Region.noSelect_spec hsel j oj cs b hoj, fun cs b => Region.noSelect_spec hsel i oi' cs b hoi⟩, fun hc => ?_⟩
      have := h5.2
      rw [hc] at this
      simpa using this
    have hL' : ∀ k, k ∈ A ++ B ↔ k < n ∧ (listed.setIfInBounds i true).getD k true = false := by
      intro k
      by_cases hki : k = i
      · subst hki
        have hlt : k < listed.size := by rw [inv.size]; omega
        have hnA : k ∉ A := fun hk => by have := hpair.2.2 k hk k List.mem_cons_self; omega
        have hnB : k ∉ B := fun hk => by have := (List.pairwise_cons.1 hpair.2.1).1 k hk; omega
        simp [hnA, hnB, hlt]
      · rw [getD_set_ne true (Ne.symm hki), ← hL k]
        simp [hki]
    have hp' : (A ++ B).Pairwise (· < ·) := List.pairwise_append.2 ⟨hpair.1, (List.pairwise_cons.1 hpair.2.1).2, fun x hx y hy => hpair.2.2 x hx y (List.mem_cons_of_mem _ hy)⟩
    have hm' : (A ++ B).length = m := by simp only [List.length_append, List.length_cons] at hm ⊢; omega
    have inv' := inv.set hi hin
    have go : ∀ (a' : Act) (w' : World) (F' : World → Prop) (N' : List Nat), Known W S F' N' w' → wpG P W S T (A.map pr ++ B.map pr) F' N' a' → wpAny P .any ops Q (m + g) (listed.setIfInBounds i true) a' w' :=
      fun a' w' F' N' h1 h4 => ih (A ++ B) _ a' w' F' N' hm' inv' hL' hp' h1 (by rw [List.map_append]; exact h4)
    rw [List.map_append, List.map_cons, hpr i oi' hoi] at h
    unfold wpOp
    simp only [hoi]
    rw [if_pos (by simp [Region.wanted, hgu])]
    refine .inl ?_
    cases hk : kd i with
    | flo =>
      rw [hk] at h
      obtain ⟨v, hv⟩ := ex_flo (A.map pr) (fun p hp => (hAp p hp).1) F N a w hkn h
      have h2 := rem_flo (A.map pr) (fun p hp => (hAp p hp).1) F N a hv h
      unfold Oper.wp
      rcases hv w hkn.gr with he | ⟨he, rfl⟩
      · rw [he]; exact go _ w F N hkn h2
      · rw [he]; exact go _ w F N hkn h2
    | new X =>
      rw [hk] at h
      have hv := ex_new (A.map pr) (fun p hp => (hAp p hp).1) F N a w hkn h
      have h2 := rem_new hTN hS hkn.gr.size (A.map pr) (fun p hp => (hAp p hp).1) F N a hkn.fresh h
      unfold Oper.wp
      rw [hv w hkn.gr]
      exact go _ (w.alloc X) _ _ (hkn.new X) h2
    | cha =>
      rw [hk] at h hAp
      exact (rem_cha (A.map pr) (fun p hp => ⟨(hAp p hp).1, (hAp p hp).2 rfl⟩) F N a h w hkn.gr hkn.fa).wp fun v w' ⟨hgr, F', M, hs', hF', hl, h'⟩ => go _ w' F' _ (hkn.call hgr hs' hF' hl) h'

theorem region_of_tail {id : Nat} {a : Act} {w : World} {F0 : World → Prop} (hF0s : Stb F0) (hF0 : F0 w.drew) (hS : ∀ k ∈ S, k < w.heap.size) {l : List Oper} {T : (World → Prop) → Act → Prop} (n : Nat) (ks : List Kd) (hm : P.follows .mixedOrders = true) (hB : mixB l.toArray n (fun i => ks.getD i .flo) = true) (hk : ks.length = n)
    (hT : ∀ F a w', T F a → GrS S w.drew w' → F w' → wpAny P .any l.toArray Q (l.length - n) (canonL n (l.length - n)) a w')
    (h : wpG P w.drew S (fun F _ a' => T F a') ((l.take n).zip ks) F0 [] a) : (Code.region id l.toArray true).wp P Q a w := by
  have hn : n < l.length := by
    simp only [mixB, Bool.and_eq_true, decide_eq_true_eq] at hB
    simpa using hB.1.1.2
  refine wp_region_any hm ?_
  have inv0 : HeadInv .any l.toArray n (Array.replicate l.toArray.size false) :=
    ⟨by simp, fun j oj _ hl => (by rw [getD_replicate_false] at hl; cases hl), fun t _ ht => getD_in (by simpa using ht) (getD_replicate_false _ _)⟩
  have hzip : (l.take n).zip ks = (List.range n).map (fun i => (l.getD i default, ks.getD i .flo)) := by
    refine List.ext_getElem (by simp [hk]; omega) fun i h1 h2 => ?_
    have hi : i < n := by simpa using h2
    simp [List.getD, List.getElem?_eq_getElem (show i < l.length by omega), List.getElem?_eq_getElem (show i < ks.length by omega)]
  rw [hzip] at h
  have := anyG (P := P) (Q := Q) (W := w.drew) (S := S) hS (g := l.length - n) hB (by simp; omega) (fun i => (l.getD i default, ks.getD i .flo))
    (fun i o ho => by simp only [List.getElem?_toArray] at ho; simp [List.getD, ho])
    (fun F N N' a' _ h => h)
    (fun F N a' w' hT' hw hF => hT F a' w' hT' hw hF)
    n (List.range n) (Array.replicate l.toArray.size false) a w.drew F0 [] (by simp) inv0
    (fun i => by
      rw [List.mem_range]
      exact ⟨fun hi => ⟨hi, getD_in (by simp; omega) (getD_replicate_false _ _)⟩, fun h => h.1⟩)
    List.pairwise_lt_range ⟨hF0s, GrS.refl _ _, hF0, (fun b hb => by cases hb), fun b hb => by cases hb⟩ h
  rw [show n + (l.length - n) = l.toArray.size by simp; omega] at this
  exact this
/-- **ONE WALK IN THE ORDER OF THE TEXT**: n operations, each of its kind; then the tail, which keeps its order. -/
theorem wp_region_mix {id : Nat} {a : Act} {w : World} {l : List Oper} (n : Nat) (ks : List Kd) (hm : P.follows .mixedOrders = true) (hB : (mixB l.toArray n (fun i => ks.getD i .flo) && Region.seqB .any l.toArray (l.length - n) n (canonL n (l.length - n))) = true) (hk : ks.length = n)
    (h : wpG P w.drew [] (fun F _ a' => ∀ w', Gr w.drew w' → F w' → wpList P l.toArray Q (l.drop n) a' w') ((l.take n).zip ks) (fun _ => True) [] a) : (Code.region id l.toArray true).wp P Q a w := by
  rw [Bool.and_eq_true] at hB
  refine region_of_tail (S := []) (F0 := fun _ => True) Stb.tt trivial (fun _ h => by cases h) (T := fun F a' => ∀ w', Gr w.drew w' → F w' → wpList P l.toArray Q (l.drop n) a' w') n ks hm hB.1 hk (fun F a' w' hT hw hF => ?_) h
  have hdl : (l.drop n).length = l.length - n := by simp
  have := wpAny_of_seq (md := .any) (Q' := Q) (l.drop n) n (canonL n (l.length - n)) a' w' (fun j => by simp [List.getElem?_drop]) (by rw [hdl]; exact hB.2) (hT w' hw.toGr hF)
  rwa [hdl] at this
/-- .. where a store into a block of S may stand among the operations. -/
theorem wp_region_mixS {id : Nat} {a : Act} {w : World} {l : List Oper} (S : List Nat) (F0 : World → Prop) (hF0s : Stb F0) (hF0 : F0 w.drew) (hS : ∀ k ∈ S, k < w.heap.size) (n : Nat) (ks : List Kd) (hm : P.follows .mixedOrders = true) (hB : (mixB l.toArray n (fun i => ks.getD i .flo) && Region.seqB .any l.toArray (l.length - n) n (canonL n (l.length - n))) = true) (hk : ks.length = n)
    (h : wpG P w.drew S (fun F _ a' => ∀ w', GrS S w.drew w' → F w' → wpList P l.toArray Q (l.drop n) a' w') ((l.take n).zip ks) F0 [] a) : (Code.region id l.toArray true).wp P Q a w := by
  rw [Bool.and_eq_true] at hB
  refine region_of_tail (S := S) (F0 := F0) hF0s hF0 hS (T := fun F a' => ∀ w', GrS S w.drew w' → F w' → wpList P l.toArray Q (l.drop n) a' w') n ks hm hB.1 hk (fun F a' w' hT hw hF => ?_) h
  have hdl : (l.drop n).length = l.length - n := by simp
  have := wpAny_of_seq (md := .any) (Q' := Q) (l.drop n) n (canonL n (l.length - n)) a' w' (fun j => by simp [List.getElem?_drop]) (by rw [hdl]; exact hB.2) (hT w' hw hF)
  rwa [hdl] at this
theorem wpList_op {i : Nat} {o : Oper} {rest : List Oper} {K : Act → World → Prop} {a : Act} {w : World} (hi : ops[i]? = some o) (hK : ∀ a w, wpList P ops Q rest a w → K a w) (h : wpList P ops Q (o :: rest) a w) : wpOp P ops Q i K a w := by
  have : wpOp P ops Q i (wpList P ops Q rest) a w := by unfold wpOp; simp only [hi]; exact h
  exact wpOp_mono hK this
/-- .. of two operations in either order. -/
def pairB (ops : Array Oper) (n : Nat) : Bool :=
  decide (Region.ready .any ops (canonL n 2) = [n, n + 1]) && decide (Region.ready .any ops ((canonL n 2).setIfInBounds n true) = [n + 1]) && decide (Region.ready .any ops ((canonL n 2).setIfInBounds (n + 1) true) = [n]) &&
  decide (Region.ready .any ops (((canonL n 2).setIfInBounds n true).setIfInBounds (n + 1) true) = []) && decide (Region.ready .any ops (((canonL n 2).setIfInBounds (n + 1) true).setIfInBounds n true) = [])
theorem wp_region_mix2 {id : Nat} {a : Act} {w : World} {l : List Oper} (n : Nat) (o1 o2 : Oper) (ks : List Kd) (hm : P.follows .mixedOrders = true) (hB : (mixB l.toArray n (fun i => ks.getD i .flo) && pairB l.toArray n) = true) (hd : l.drop n = [o1, o2]) (hk : ks.length = n)
    (h : wpG P w.drew [] (fun F _ a' => ∀ w', Gr w.drew w' → F w' → wpList P l.toArray Q [o1, o2] a' w' ∧ wpList P l.toArray Q [o2, o1] a' w') ((l.take n).zip ks) (fun _ => True) [] a) : (Code.region id l.toArray true).wp P Q a w := by
  rw [Bool.and_eq_true] at hB
  have hlen : l.length - n = 2 := by have := congrArg List.length hd; simpa using this
  have h1 : l.toArray[n]? = some o1 := by
    have := congrArg (·[0]?) hd
    simpa [List.getElem?_drop] using this
  have h2 : l.toArray[n + 1]? = some o2 := by
    have := congrArg (·[1]?) hd
    simpa [List.getElem?_drop] using this
  refine region_of_tail (S := []) (F0 := fun _ => True) Stb.tt trivial (fun _ h => by cases h) (T := fun F a' => ∀ w', Gr w.drew w' → F w' → wpList P l.toArray Q [o1, o2] a' w' ∧ wpList P l.toArray Q [o2, o1] a' w') n ks hm hB.1 hk (fun F a' w' hT hw hF => ?_) h
  rw [hlen]
  have hp := hB.2
  simp only [pairB, Bool.and_eq_true, decide_eq_true_eq] at hp
  obtain ⟨⟨⟨⟨p0, p1⟩, p2⟩, p3⟩, p4⟩ := hp
  obtain ⟨t1, t2⟩ := hT w' hw.toGr hF
  refine ⟨fun h => (by rw [p0] at h; cases h), fun i hi => ?_⟩
  rw [p0] at hi
  simp only [List.mem_cons, List.not_mem_nil, or_false] at hi
  rcases hi with rfl | rfl
  · refine wpList_op h1 (fun a w hq => ?_) t1
    refine ⟨fun h => (by rw [p1] at h; cases h), fun i' hi' => ?_⟩
    rw [p1] at hi'
    obtain rfl : i' = i + 1 := by simpa using hi'
    exact wpList_op (rest := []) h2 (fun a w h => ⟨p3, h⟩) hq
  · refine wpList_op h2 (fun a w hq => ?_) t2
    refine ⟨fun h => (by rw [p2] at h; cases h), fun i' hi' => ?_⟩
    rw [p2] at hi'
    obtain rfl : i' = n := by simpa using hi'
    exact wpList_op (rest := []) h1 (fun a w h => ⟨p4, h⟩) hq
end

section
variable {P : Program} {W : World} {Q : Exit → Act → World → Prop} {T : (World → Prop) → List Nat → Act → Prop}
theorem listG {ops : Array Oper} {rest : List Oper} (hT : ∀ F N a w, T F N a → Gr W w → F w → wpList P ops Q rest a w) : ∀ (L : List (Oper × Kd)), (∀ p ∈ L, p.1.guard = none) → ∀ (F : World → Prop) (N : List Nat) (a : Act) (w : World),
    Known W [] F N w → wpG P W [] T L F N a → wpList P ops Q (L.map (·.1) ++ rest) a w
  | [], _, F, N, a, w, hk, h => hT F N a w h hk.gr.toGr hk.fa
  | (o, .flo) :: L, hg, F, N, a, w, hk, ⟨v, hv, h⟩ => wpList_plain (hg _ List.mem_cons_self) fun K hK => by
      unfold Oper.wp
      rcases hv w hk.gr with he | ⟨he, rfl⟩
      · rw [he]; exact hK _ _ (listG hT L (fun p hp => hg p (List.mem_cons_of_mem _ hp)) F N _ w hk h)
      · rw [he]; exact hK _ _ (listG hT L (fun p hp => hg p (List.mem_cons_of_mem _ hp)) F N _ w hk h)
  | (o, .new X) :: L, hg, F, N, a, w, hk, ⟨hm, h⟩ => wpList_plain (hg _ List.mem_cons_self) fun K hK => by
      unfold Oper.wp; rw [hm w hk.gr]; exact hK _ _ (listG hT L (fun p hp => hg p (List.mem_cons_of_mem _ hp)) _ _ _ _ (hk.new X) (h _ hk.gr.size hk.fresh))
  | (o, .cha) :: L, hg, F, N, a, w, hk, h => wpList_plain (hg _ List.mem_cons_self) fun K hK => by
      exact (h w hk.gr hk.fa).wp fun v w' ⟨hgr, F', M, hs', hF', hl, h'⟩ => hK _ _ (listG hT L (fun p hp => hg p (List.mem_cons_of_mem _ hp)) F' _ _ w' (hk.call hgr hs' hF' hl) h')
/-- The same of a region that keeps the order of the text. -/
theorem wp_region_seq {id : Nat} {a : Act} {w : World} {l : List Oper} (n : Nat) (ks : List Kd) (hB : (l.take n).all (·.guard.isNone) = true) (hk : ks.length = n) (hn : n ≤ l.length)
    (h : wpG P w [] (fun F _ a' => ∀ w', Gr w w' → F w' → wpList P l.toArray Q (l.drop n) a' w') ((l.take n).zip ks) (fun _ => True) [] a) : (Code.region id l.toArray false).wp P Q a w := by
  refine wp_region_lit ?_
  have e : ((l.take n).zip ks).map (·.1) ++ l.drop n = l := by
    rw [List.map_fst_zip (by simp; omega), List.take_append_drop]
  have := listG (P := P) (W := w) (Q := Q) (ops := l.toArray) (rest := l.drop n) (fun F N a w' hT hw hF => hT w' hw hF) ((l.take n).zip ks) (fun p hp => by
    have h1 := List.all_eq_true.1 hB p.1 (List.of_mem_zip hp).1
    simpa using h1) (fun _ => True) [] a w ⟨fun _ _ _ _ => trivial, GrS.refl _ _, trivial, (fun b hb => by cases hb), fun b hb => by cases hb⟩ h
  rwa [e] at this
end

section
variable {P : Program} {W : World} {S : List Nat} {T : (World → Prop) → List Nat → Act → Prop} {L : List (Oper × Kd)} {F : World → Prop} {N : List Nat} {a : Act} {o : Oper}
theorem gm_nil (h : T F N a) : wpG P W S T [] F N a := h
/-- A whole struct or array out of a block that stood. -/
theorem gm_loadS {t : TypeId} (x : Operand) (ho : o.op = .load t x) (b : Nat) (cs : Array Value) (t' : TypeId) (fr : Nat × Nat) (d : TypeDesc) (hb : W.heap[b]? = some (.cells cs t' fr)) (hbS : b ∉ S) (hx : a.eval x = .pointer (some ⟨b, 0, none⟩))
    (hu : P.underlying t = some d) (hd : (match d with | .struct _ | .array _ _ => true | _ => false) = true) (hi : (P.info? t).map (·.size) = some cs.size)
    (h : wpG P W S T L F N (a.put o.dst (.agg cs))) : wpG P W S T ((o, .flo) :: L) F N a :=
  ⟨_, fun w hw => .inl <| by
    unfold execOp
    simp only [ho, hx, Instr.loadAt, Instr.sureAddr, Sem.run_bind, Sem.run_pure, Result.andThen_ok, run_loadVar_row w b t' t cs fr d (hw.at hbS hb) hu hd hi], h⟩
theorem gm_load {t : TypeId} (x : Operand) (ho : o.op = .load t x) (b : Nat) (cs : Array Value) (t' : TypeId) (fr : Nat × Nat) (d : TypeDesc) (hb : W.heap[b]? = some (.cells cs t' fr)) (hx : a.eval x = .pointer (some ⟨b, 0, none⟩))
    (hu : P.underlying t = some d) (hd : (match d with | .struct _ | .array _ _ => true | _ => false) = true) (hi : (P.info? t).map (·.size) = some cs.size)
    (h : wpG P W [] T L F N (a.put o.dst (.agg cs))) : wpG P W [] T ((o, .flo) :: L) F N a :=
  gm_loadS x ho b cs t' fr d hb (fun h => by cases h) hx hu hd hi h
def goesB (P : Program) (f : FuncId) : Bool := match P.funcs[f]? with | some fn => !(fn.name == "runtime.NumGoroutine") && fn.body.isSome | none => false
theorem exec_call {f : FuncId} {l : List Operand} {ts : Array TypeId} {vl : List Value} (hb : goesB P f = true) (ho : o.op = .call { callee := .value (.func f), args := l.toArray, argTypes := ts }) (hv : l.map a.eval = vl) (w : World) :
    (execOp a.eval o).run P w = .ok (.enter f vl.toArray) w := by
  obtain ⟨dst, op, ty, pos, after, guard⟩ := o
  subst ho
  rw [execOp_call_go]
  subst hv
  unfold goesB at hb
  cases hf : P.funcs[f]? with
  | none => simp [hf] at hb
  | some fn =>
    simp only [hf, Bool.and_eq_true, Bool.not_eq_true', beq_eq_false_iff_ne] at hb
    have h2 : fn.body ≠ none := fun h => by simp [h] at hb
    simp [callFunc, hf, hb.1, h2]
/-- A call of a function of the program. -/
theorem gm_call {f : FuncId} {l : List Operand} {ts : Array TypeId} (vl : List Value) (hb : goesB P f = true) (ho : o.op = .call { callee := .value (.func f), args := l.toArray, argTypes := ts }) (hv : l.map a.eval = vl) (hF : Stb F)
    (h : ∀ w, GrS S W w → F w → Calls P f vl.toArray w (fun e w' => ∃ v, e = .returned v ∧ Gr w w' ∧ wpG P W S T L F N (a.put o.dst v))) : wpG P W S T ((o, .cha) :: L) F N a :=
  fun w hw hFw => .inl ⟨f, vl.toArray, exec_call hb ho hv w, (h w hw hFw).mono fun _ w' ⟨v, hv, hg, hr⟩ => ⟨v, hv, (hg.toS S).d, F, [], hF, hF _ _ hg hFw, fun _ hb => (by cases hb), hr⟩⟩
/-- One that leaves facts on the world, and new blocks. -/
theorem gm_callF {f : FuncId} {l : List Operand} {ts : Array TypeId} (vl : List Value) (hb : goesB P f = true) (ho : o.op = .call { callee := .value (.func f), args := l.toArray, argTypes := ts }) (hv : l.map a.eval = vl)
    (h : ∀ w, GrS S W w → F w → Calls P f vl.toArray w (fun e w' => ∃ v, e = .returned v ∧ Gr w w' ∧ ∃ F' N', Stb F' ∧ F' w' ∧ (∀ b ∈ N', w.heap.size ≤ b ∧ b < w'.heap.size) ∧ wpG P W S T L F' (N' ++ N) (a.put o.dst v))) : wpG P W S T ((o, .cha) :: L) F N a :=
  fun w hw hFw => .inl ⟨f, vl.toArray, exec_call hb ho hv w, (h w hw hFw).mono fun _ w' ⟨v, hv, hg, hr⟩ => ⟨v, hv, (hg.toS S).d, hr⟩⟩
theorem gm_flo (v : Value) (h : ∀ w, GrS S W w → (execOp a.eval o).run P w = .ok (.value v) w) (hr : wpG P W S T L F N (a.put o.dst v)) : wpG P W S T ((o, .flo) :: L) F N a := ⟨v, fun w hw => .inl (h w hw), hr⟩
theorem gm_move (x : Operand) (ho : o.op = .move x ∨ o.op = .assign x) (v : Value) (hx : a.eval x = v) (h : wpG P W S T L F N (a.put o.dst v)) : wpG P W S T ((o, .flo) :: L) F N a :=
  ⟨v, fun w _ => .inl <| by subst hx; unfold execOp; rcases ho with ho | ho <;> simp only [ho] <;> rfl, h⟩
theorem gm_alloc {t : TypeId} (ho : o.op = .alloc t) (X : Obj) (hm : ∀ w, (Instr.alloc t true (.tuple #[])).run P w = .ok (.pointer (some ⟨w.heap.size, 0, none⟩)) (w.alloc X))
    (h : ∀ b, W.heap.size ≤ b → b ∉ N → wpG P W S T L (fun w => F w ∧ w.heap[b]? = some X) (b :: N) (a.put o.dst (.pointer (some ⟨b, 0, none⟩)))) : wpG P W S T ((o, .new X) :: L) F N a :=
  ⟨fun w _ => by unfold execOp; simp only [ho, Sem.run_bind, hm, Result.andThen_ok, Sem.run_pure], h⟩
theorem gm_box {t : TypeId} (x : Operand) (ho : o.op = .box t x) (X : Obj) (v : Value) (hx : a.eval x = v) (hm : ∀ w, (Instr.box t v).run P w = .ok (.pointer (some ⟨w.heap.size, 0, none⟩)) (w.alloc X))
    (h : ∀ b, W.heap.size ≤ b → b ∉ N → wpG P W S T L (fun w => F w ∧ w.heap[b]? = some X) (b :: N) (a.put o.dst (.pointer (some ⟨b, 0, none⟩)))) : wpG P W S T ((o, .new X) :: L) F N a :=
  ⟨fun w _ => by subst hx; unfold execOp; simp only [ho, Sem.run_bind, hm, Result.andThen_ok, Sem.run_pure], h⟩
theorem gm_extract {vs : Array Value} (x : Operand) (i : Nat) (ho : o.op = .extract x i) (hx : a.eval x = .tuple vs) (v : Value) (hv : vs[i]? = some v) (h : wpG P W S T L F N (a.put o.dst v)) : wpG P W S T ((o, .flo) :: L) F N a :=
  ⟨v, fun w _ => .inl <| by unfold execOp; simp only [ho, hx]; simp [Instr.extract, hv], h⟩
theorem setRow_same {w : World} {b : Nat} {cs : Array Value} {t : TypeId} {fr : Nat × Nat} (h : w.heap[b]? = some (.cells cs t fr)) : w.setRow b cs = w := by
  obtain ⟨heap, tape, drawn, os, output⟩ := w
  have hh : ((⟨heap, tape, drawn, os, output⟩ : World).setRow b cs).heap = heap := by
    refine Array.ext_getElem? fun k => ?_
    by_cases hk : k = b
    · subst hk; exact (setRow_heap _ _ _ _ _ _ h).trans h.symm
    · exact setRow_other _ _ _ _ hk
  unfold World.setRow at hh ⊢
  simpa using hh
/-- A store of what stands there. -/
theorem gm_store_same {t : TypeId} (x y : Operand) (ho : o.op = .store t x y) (b : Nat) (cs : Array Value) (t' : TypeId) (hx : a.eval x = .pointer (some ⟨b, 0, none⟩)) (hy : a.eval y = .agg cs) (hbS : b ∉ S) (hd : o.dst = none)
    (hi : (P.info? t).map (·.size) = some cs.size) (h1 : cs.all (·.oneCell') = true) (hb : W.heap[b]? = some (.cells cs t' (0, 0))) (h : wpG P W S T L F N a) : wpG P W S T ((o, .flo) :: L) F N a :=
  ⟨undef, fun w hw => .inr ⟨by
    unfold execOp
    simp only [ho, hx, hy, Instr.storeAt, Instr.sureAddr, Sem.run_bind, Sem.run_pure, Result.andThen_ok, run_storeVar_row w b t' t cs cs (hw.at hbS hb) hi rfl h1, setRow_same (hw.at hbS hb)], rfl⟩, by rw [hd]; exact h⟩
/-- A store of a whole row into a block of S. -/
theorem gm_store {t : TypeId} (x y : Operand) (ho : o.op = .store t x y) (b : Nat) (old cs : Array Value) (t' : TypeId) (hx : a.eval x = .pointer (some ⟨b, 0, none⟩)) (hy : a.eval y = .agg cs) (hbS : b ∈ S) (hd : o.dst = none)
    (hi : (P.info? t).map (·.size) = some cs.size) (hold : old.size = cs.size) (h1 : cs.all (·.oneCell') = true) (G : World → Prop) (hFG : ∀ w, F w → G w ∧ w.heap[b]? = some (.cells old t' (0, 0))) (hG : Stb G) (hGs : ∀ w, G w → G (w.setRow b cs))
    (h : wpG P W S T L (fun w => G w ∧ w.heap[b]? = some (.cells cs t' (0, 0))) N a) : wpG P W S T ((o, .cha) :: L) F N a :=
  fun w hw hFw => .inr (.inl ⟨w.setRow b cs, by
    unfold execOp
    simp only [ho, hx, hy, Instr.storeAt, Instr.sureAddr, Sem.run_bind, Sem.run_pure, Result.andThen_ok, run_storeVar_row w b t' t old cs (hFG w hFw).2 hi hold h1], ((GrS.refl S w).setRow (.inr hbS) cs).d, _, [], hG.new b _, ⟨hGs w (hFG w hFw).1, setRow_heap _ _ _ _ _ _ (hFG w hFw).2⟩, fun _ hb => (by cases hb), by rw [hd]; exact h⟩)
/-- A store of a whole row into a block that is new. -/
theorem gm_storeN {t : TypeId} (x y : Operand) (ho : o.op = .store t x y) (b : Nat) (old cs : Array Value) (t' : TypeId) (hx : a.eval x = .pointer (some ⟨b, 0, none⟩)) (hy : a.eval y = .agg cs) (hbN : b ∈ N) (hd : o.dst = none)
    (hi : (P.info? t).map (·.size) = some cs.size) (hold : old.size = cs.size) (h1 : cs.all (·.oneCell') = true) (G : World → Prop) (hFG : ∀ w, F w → G w ∧ w.heap[b]? = some (.cells old t' (0, 0))) (hG : Stb G) (hGs : ∀ w, G w → G (w.setRow b cs))
    (h : wpG P W S T L (fun w => G w ∧ w.heap[b]? = some (.cells cs t' (0, 0))) N a) : wpG P W S T ((o, .cha) :: L) F N a :=
  fun w hw hFw => .inr (.inl ⟨w.setRow b cs, by
    unfold execOp
    simp only [ho, hx, hy, Instr.storeAt, Instr.sureAddr, Sem.run_bind, Sem.run_pure, Result.andThen_ok, run_storeVar_row w b t' t old cs (hFG w hFw).2 hi hold h1], ⟨[b], (fun d hd => by simp at hd; subst hd; exact hbN), (GrS.refl _ w).setRow (.inr (by simp)) cs⟩, _, [], hG.new b _, ⟨hGs w (hFG w hFw).1, setRow_heap _ _ _ _ _ _ (hFG w hFw).2⟩, fun _ hb => (by cases hb), by rw [hd]; exact h⟩)
/-- An operation that yields a value in the world as it has become, and leaves facts and new blocks. -/
theorem gm_val (h : ∀ w, GrS S W w → F w → ∃ v w', (execOp a.eval o).run P w = .ok (.value v) w' ∧ Gr w w' ∧ ∃ F' N', Stb F' ∧ F' w' ∧ (∀ b ∈ N', w.heap.size ≤ b ∧ b < w'.heap.size) ∧ wpG P W S T L F' (N' ++ N) (a.put o.dst v)) : wpG P W S T ((o, .cha) :: L) F N a :=
  fun w hw hFw => by
    obtain ⟨v, w', he, hg, hr⟩ := h w hw hFw
    exact .inr (.inr ⟨v, w', he, (hg.toS S).d, hr⟩)
end
end Go.Proofs.YtjednaendedpdaaGreat
namespace Go.Proofs.YtjednaendedpdaaGreat
set_option maxRecDepth 100000
set_option linter.unusedVariables false
namespace MixV
open Go Go.RowKit

/-- What an operation of a region is: it yields one value in every world; it is a call; it makes a block. -/
inductive Kd where
  | flo
  | cha
  | new (X : Obj) (g : Nat → Value)
def Kd.isFlo : Kd → Bool | .flo => true | _ => false
def Kd.isCha : Kd → Bool | .cha => true | _ => false
/-- What stays true as the world grows. -/
def Stb (F : World → Prop) : Prop := ∀ w w', Gr w w' → F w → F w'

section
variable {P : Program} {W : World} {S : List Nat} {ops : Array Oper}

def yieldsG (P : Program) (W : World) (S : List Nat) (o : Oper) (a : Act) (v : Value) : Prop := ∀ w, GrS S W w → (execOp a.eval o).run P w = .ok (.value v) w ∨ ((execOp a.eval o).run P w = .ok .skip w ∧ v = undef)
def makesG (P : Program) (W : World) (S : List Nat) (o : Oper) (a : Act) (X : Obj) (g : Nat → Value) : Prop :=
  ∀ w, GrS S W w → (execOp a.eval o).run P w = .ok (.value (g w.heap.size)) (w.alloc X)
/-- A call that comes back, or a store. -/
def steps (P : Program) (S : List Nat) (o : Oper) (a : Act) (w : World) (R : Value → World → Prop) : Prop :=
  (∃ f args, (execOp a.eval o).run P w = .ok (.enter f args) w ∧ Calls P f args w (fun e w' => ∃ v, e = .returned v ∧ R v w')) ∨
  (∃ w', (execOp a.eval o).run P w = .ok .skip w' ∧ R undef w') ∨ (∃ v w', (execOp a.eval o).run P w = .ok (.value v) w' ∧ R v w')
theorem steps.mono {o : Oper} {a : Act} {w : World} {R R' : Value → World → Prop} (h : steps P S o a w R) (hr : ∀ v w', R v w' → R' v w') : steps P S o a w R' := by
  rcases h with ⟨f, args, he, hc⟩ | ⟨w', he, h⟩ | ⟨v, w', he, h⟩
  · exact .inl ⟨f, args, he, hc.mono fun _ _ ⟨v, hv, h⟩ => ⟨v, hv, hr _ _ h⟩⟩
  · exact .inr (.inl ⟨w', he, hr _ _ h⟩)
  · exact .inr (.inr ⟨v, w', he, hr _ _ h⟩)
theorem steps.some {o : Oper} {a : Act} {w : World} {R : Value → World → Prop} (h : steps P S o a w R) : ∃ v w', R v w' := by
  rcases h with ⟨f, args, _, hc⟩ | ⟨w', _, h⟩ | ⟨v, w', _, h⟩
  · obtain ⟨_, w', _, ⟨v, _, h⟩, _⟩ := hc []
    exact ⟨v, w', h⟩
  · exact ⟨_, w', h⟩
  · exact ⟨_, w', h⟩
theorem steps.congr {o : Oper} {a a' : Act} {w : World} {R : Value → World → Prop} (he : execOp a'.eval o = execOp a.eval o) (h : steps P S o a w R) : steps P S o a' w R := by
  unfold steps at h ⊢; rw [he]; exact h
theorem steps.wp {o : Oper} {a : Act} {w : World} {R : Value → World → Prop} {K : Act → World → Prop} {Q : Exit → Act → World → Prop} (h : steps P S o a w R) (hk : ∀ v w', R v w' → K (a.put o.dst v) w') : o.wp P a w K Q := by
  unfold Oper.wp
  rcases h with ⟨f, args, he, hc⟩ | ⟨w', he, h⟩ | ⟨v, w', he, h⟩
  · rw [he]; exact hc.mono fun e w' ⟨v, hv, h⟩ => by subst hv; exact hk _ _ h
  · rw [he]; exact hk _ _ h
  · rw [he]; exact hk _ _ h
def wpG (P : Program) (W : World) (S : List Nat) (T : (World → Prop) → List Nat → Act → Prop) : List (Oper × Kd) → (World → Prop) → List Nat → Act → Prop
  | [], F, N, a => T F N a
  | (o, .flo) :: L, F, N, a => ∃ v, yieldsG P W S o a v ∧ wpG P W S T L F N (a.put o.dst v)
  | (o, .new X g) :: L, F, N, a => makesG P W S o a X g ∧ ∀ b, W.heap.size ≤ b → b ∉ N → wpG P W S T L (fun w => F w ∧ w.heap[b]? = some X) (b :: N) (a.put o.dst (g b))
  | (o, .cha) :: L, F, N, a => ∀ w, GrS S W w → F w → steps P S o a w (fun v w' => GrD S N w w' ∧ ∃ F' N', Stb F' ∧ F' w' ∧ (∀ b ∈ N', w.heap.size ≤ b ∧ b < w'.heap.size) ∧ wpG P W S T L F' (N' ++ N) (a.put o.dst v))

theorem Stb.tt : Stb (fun _ => True) := fun _ _ _ _ => trivial
theorem Stb.row (b : Nat) (X : Obj) : Stb (fun w => True ∧ w.heap[b]? = some X) := fun _ _ hg h => ⟨trivial, hg.block h.2⟩
theorem Stb.new {F : World → Prop} (h : Stb F) (b : Nat) (X : Obj) : Stb (fun w => F w ∧ w.heap[b]? = some X) :=
  fun w w' hg ⟨h1, h2⟩ => ⟨h w w' hg h1, hg.block h2⟩
theorem wpG_sub {P : Program} {W : World} {S : List Nat} {T : (World → Prop) → List Nat → Act → Prop} (hT : ∀ F N N' a, (∀ b, b ∈ N → b ∈ N') → T F N a → T F N' a) : ∀ (L : List (Oper × Kd)) (F : World → Prop) (N N' : List Nat) (a : Act), (∀ b, b ∈ N → b ∈ N') → wpG P W S T L F N a → wpG P W S T L F N' a
  | [], F, N, N', a, h, hg => hT F N N' a h hg
  | (o, .flo) :: L, F, N, N', a, h, ⟨v, hv, hg⟩ => ⟨v, hv, wpG_sub hT L F N N' _ h hg⟩
  | (o, .new X g) :: L, F, N, N', a, h, ⟨hm, hg⟩ => ⟨hm, fun b hb hn => wpG_sub hT L _ (b :: N) (b :: N') _ (fun c hc => by
      rcases List.mem_cons.1 hc with h' | h'
      · exact h' ▸ List.mem_cons_self
      · exact List.mem_cons_of_mem _ (h c h')) (hg b hb (fun h' => hn (h b h')))⟩
  | (o, .cha) :: L, F, N, N', a, h, hg => fun w hw hF => by
    refine (hg w hw hF).mono fun v w' ⟨hgr, F', M, hs, hF', hl, h'⟩ => ⟨hgr.sub h, F', M, hs, hF', hl, wpG_sub hT L F' (M ++ N) (M ++ N') _ (fun b hb => ?_) h'⟩
    rcases List.mem_append.1 hb with h' | h'
    · exact List.mem_append_left _ h'
    · exact List.mem_append_right _ (h b h')
theorem and_swap3 (F : World → Prop) (p q : World → Prop) : (fun w => (F w ∧ p w) ∧ q w) = (fun w => (F w ∧ q w) ∧ p w) := by
  funext w; exact propext ⟨fun ⟨⟨a, b⟩, c⟩ => ⟨⟨a, c⟩, b⟩, fun ⟨⟨a, b⟩, c⟩ => ⟨⟨a, c⟩, b⟩⟩

structure Apt (ops : Array Oper) (j i : Oper) : Prop where
  ap : j.apart ops i = true
  sj : ∀ cs b, j.op ≠ .select cs b
  si : ∀ cs b, i.op ≠ .select cs b
theorem Apt.exec_i {i j : Oper} (h : Apt ops j i) (a : Act) (u : Value) : execOp (a.put j.dst u).eval i = execOp a.eval i :=
  execOp_put i h.si a j.dst u (Oper.apart_spec h.ap).1
theorem Apt.exec_j {i j : Oper} (h : Apt ops j i) (a : Act) (u : Value) : execOp (a.put i.dst u).eval j = execOp a.eval j :=
  execOp_put j h.sj a i.dst u (Oper.apart_spec h.ap).2.2
theorem Apt.comm {i j : Oper} (h : Apt ops j i) (a : Act) (u v : Value) : (a.put j.dst u).put i.dst v = (a.put i.dst v).put j.dst u :=
  Act.put_comm a u v (Oper.apart_spec h.ap).2.1

variable {T : (World → Prop) → List Nat → Act → Prop} {oi : Oper}


/-- What is known of a world on the way. -/
structure Known (W : World) (S : List Nat) (F : World → Prop) (N : List Nat) (w : World) : Prop where
  st : Stb F
  gr : GrS S W w
  fa : F w
  lt : ∀ b ∈ N, b < w.heap.size
  ge : ∀ b ∈ N, W.heap.size ≤ b
theorem Known.new {F : World → Prop} {N : List Nat} {w : World} (h : Known W S F N w) (X : Obj) : Known W S (fun x => F x ∧ x.heap[w.heap.size]? = some X) (w.heap.size :: N) (w.alloc X) :=
  ⟨h.st.new _ X, h.gr.trans ((Gr.alloc _ _).toS S), ⟨h.st _ _ (Gr.alloc _ _) h.fa, heap_alloc_new _ _⟩, fun b hb => by
    rcases List.mem_cons.1 hb with h' | h'
    · subst h'; simp
    · have := h.lt b h'; simp; omega, fun b hb => by
    rcases List.mem_cons.1 hb with h' | h'
    · subst h'; exact h.gr.size
    · exact h.ge b h'⟩
theorem Known.fresh {F : World → Prop} {N : List Nat} {w : World} (h : Known W S F N w) : w.heap.size ∉ N := fun hb => Nat.lt_irrefl _ (h.lt _ hb)
theorem Known.call {F F' : World → Prop} {N M : List Nat} {w w' : World} (h : Known W S F N w) (hg : GrD S N w w') (hs : Stb F') (hF : F' w') (hl : ∀ b ∈ M, w.heap.size ≤ b ∧ b < w'.heap.size) : Known W S F' (M ++ N) w' :=
  ⟨hs, hg.trans h.gr h.ge, hF, fun b hb => by
    rcases List.mem_append.1 hb with h' | h'
    · exact (hl b h').2
    · exact hg.lt (h.lt b h'), fun b hb => by
    rcases List.mem_append.1 hb with h' | h'
    · exact Nat.le_trans h.gr.size (hl b h').1
    · exact h.ge b h'⟩

theorem ex_flo {B : List (Oper × Kd)} : ∀ (A : List (Oper × Kd)), (∀ p ∈ A, Apt ops p.1 oi) → ∀ (F : World → Prop) (N : List Nat) (a : Act) (w : World), Known W S F N w → wpG P W S T (A ++ (oi, .flo) :: B) F N a → ∃ v, yieldsG P W S oi a v
  | [], _, _, _, _, _, _, ⟨v, h, _⟩ => ⟨v, h⟩
  | (oj, .flo) :: A, hA, F, N, a, w, hk, ⟨u, _, h⟩ => by
    obtain ⟨v, hv⟩ := ex_flo A (fun p hp => hA p (List.mem_cons_of_mem _ hp)) F N _ w hk h
    exact ⟨v, fun x hx => by have := hv x hx; rwa [(hA _ List.mem_cons_self).exec_i] at this⟩
  | (oj, .new X g) :: A, hA, F, N, a, w, hk, ⟨_, h⟩ => by
    obtain ⟨v, hv⟩ := ex_flo A (fun p hp => hA p (List.mem_cons_of_mem _ hp)) _ _ _ (w.alloc X) (hk.new X) (h w.heap.size hk.gr.size hk.fresh)
    exact ⟨v, fun x hx => by have := hv x hx; rwa [(hA _ List.mem_cons_self).exec_i] at this⟩
  | (oj, .cha) :: A, hA, F, N, a, w, hk, h => by
    obtain ⟨u, w', hg, F', M, hs', hF', hl, h'⟩ := (h w hk.gr hk.fa).some
    obtain ⟨v, hv⟩ := ex_flo A (fun p hp => hA p (List.mem_cons_of_mem _ hp)) F' _ _ w' (hk.call hg hs' hF' hl) h'
    exact ⟨v, fun x hx => by have := hv x hx; rwa [(hA _ List.mem_cons_self).exec_i] at this⟩

theorem rem_flo {v : Value} {B : List (Oper × Kd)} : ∀ (A : List (Oper × Kd)), (∀ p ∈ A, Apt ops p.1 oi) → ∀ (F : World → Prop) (N : List Nat) (a : Act), yieldsG P W S oi a v → wpG P W S T (A ++ (oi, .flo) :: B) F N a → wpG P W S T (A ++ B) F N (a.put oi.dst v)
  | [], _, _, _, a, hv, ⟨v', h', hg⟩ => by
    have e : v = v' := by
      rcases hv W (GrS.refl _ _) with h1 | ⟨h1, e1⟩ <;> rcases h' W (GrS.refl _ _) with h2 | ⟨h2, e2⟩ <;> rw [h1] at h2
      · injection h2 with h3; injection h3
      · injection h2 with h3; cases h3
      · injection h2 with h3; cases h3
      · rw [e1, e2]
    subst e
    exact hg
  | (oj, .flo) :: A, hA, F, N, a, hv, ⟨u, hu, h⟩ => by
    have hj := hA _ List.mem_cons_self
    refine ⟨u, fun x hx => by rw [hj.exec_j]; exact hu x hx, ?_⟩
    rw [← hj.comm]
    exact rem_flo A (fun p hp => hA p (List.mem_cons_of_mem _ hp)) F N _ (fun x hx => by rw [hj.exec_i]; exact hv x hx) h
  | (oj, .new X g) :: A, hA, F, N, a, hv, ⟨hm, h⟩ => by
    have hj := hA _ List.mem_cons_self
    refine ⟨fun x hx => by rw [hj.exec_j]; exact hm x hx, fun b hb hn => ?_⟩
    rw [← hj.comm]
    exact rem_flo A (fun p hp => hA p (List.mem_cons_of_mem _ hp)) _ _ _ (fun x hx => by rw [hj.exec_i]; exact hv x hx) (h b hb hn)
  | (oj, .cha) :: A, hA, F, N, a, hv, h => by
    have hj := hA _ List.mem_cons_self
    intro w hw hF
    refine ((h w hw hF).congr (hj.exec_j _ _)).mono fun u w' ⟨hg, F', M, hs', hF', hl, h'⟩ => ⟨hg, F', M, hs', hF', hl, ?_⟩
    rw [← hj.comm]
    exact rem_flo A (fun p hp => hA p (List.mem_cons_of_mem _ hp)) F' _ _ (fun x hx => by rw [hj.exec_i]; exact hv x hx) h'

theorem ex_new {X : Obj} {g : Nat → Value} {B : List (Oper × Kd)} : ∀ (A : List (Oper × Kd)), (∀ p ∈ A, Apt ops p.1 oi) → ∀ (F : World → Prop) (N : List Nat) (a : Act) (w : World), Known W S F N w → wpG P W S T (A ++ (oi, .new X g) :: B) F N a → makesG P W S oi a X g
  | [], _, _, _, _, _, _, ⟨h, _⟩ => h
  | (oj, .flo) :: A, hA, F, N, a, w, hk, ⟨u, _, h⟩ => by
    have hv := ex_new A (fun p hp => hA p (List.mem_cons_of_mem _ hp)) F N _ w hk h
    exact fun x hx => by have := hv x hx; rwa [(hA _ List.mem_cons_self).exec_i] at this
  | (oj, .new Y g2) :: A, hA, F, N, a, w, hk, ⟨_, h⟩ => by
    have hv := ex_new A (fun p hp => hA p (List.mem_cons_of_mem _ hp)) _ _ _ (w.alloc Y) (hk.new Y) (h w.heap.size hk.gr.size hk.fresh)
    exact fun x hx => by have := hv x hx; rwa [(hA _ List.mem_cons_self).exec_i] at this
  | (oj, .cha) :: A, hA, F, N, a, w, hk, h => by
    obtain ⟨u, w', hg, F', M, hs', hF', hl, h'⟩ := (h w hk.gr hk.fa).some
    have hv := ex_new A (fun p hp => hA p (List.mem_cons_of_mem _ hp)) F' _ _ w' (hk.call hg hs' hF' hl) h'
    exact fun x hx => by have := hv x hx; rwa [(hA _ List.mem_cons_self).exec_i] at this

theorem rem_new (hT : ∀ F N N' a, (∀ b, b ∈ N → b ∈ N') → T F N a → T F N' a) (hS : ∀ k ∈ S, k < W.heap.size) {X : Obj} {g : Nat → Value} {b : Nat} (hb : W.heap.size ≤ b) {B : List (Oper × Kd)} : ∀ (A : List (Oper × Kd)), (∀ p ∈ A, Apt ops p.1 oi) → ∀ (F : World → Prop) (N : List Nat) (a : Act), b ∉ N → wpG P W S T (A ++ (oi, .new X g) :: B) F N a →
    wpG P W S T (A ++ B) (fun w => F w ∧ w.heap[b]? = some X) (b :: N) (a.put oi.dst (g b))
  | [], _, _, _, a, hn, ⟨_, h⟩ => h b hb hn
  | (oj, .flo) :: A, hA, F, N, a, hn, ⟨u, hu, h⟩ => by
    have hj := hA _ List.mem_cons_self
    refine ⟨u, fun x hx => by rw [hj.exec_j]; exact hu x hx, ?_⟩
    rw [← hj.comm]
    exact rem_new hT hS hb A (fun p hp => hA p (List.mem_cons_of_mem _ hp)) F N _ hn h
  | (oj, .new Y g2) :: A, hA, F, N, a, hn, ⟨hm, h⟩ => by
    have hj := hA _ List.mem_cons_self
    refine ⟨fun x hx => by rw [hj.exec_j]; exact hm x hx, fun b' hb' hn' => ?_⟩
    rw [← hj.comm, and_swap3]
    have hne : b' ≠ b := fun h => hn' (h ▸ List.mem_cons_self)
    refine wpG_sub hT _ _ (b :: b' :: N) (b' :: b :: N) _ (fun c hc => ?_) (rem_new hT hS hb A (fun p hp => hA p (List.mem_cons_of_mem _ hp)) _ (b' :: N) _ (fun h => ?_) (h b' hb' (fun h => hn' (List.mem_cons_of_mem _ h))))
    · simp only [List.mem_cons] at hc ⊢; rcases hc with h | h | h <;> simp [h]
    · rcases List.mem_cons.1 h with h' | h'
      · exact hne h'.symm
      · exact hn h'
  | (oj, .cha) :: A, hA, F, N, a, hn, h => by
    have hj := hA _ List.mem_cons_self
    intro w hw hF
    refine ((h w hw hF.1).congr (hj.exec_j _ _)).mono fun u w' ⟨hg, F', M, hs', hF', hl, h'⟩ =>
      ⟨hg.sub (fun _ h => List.mem_cons_of_mem _ h), fun x => F' x ∧ x.heap[b]? = some X, M, hs'.new b X, ⟨hF', hg.at (fun h => Nat.lt_irrefl _ (Nat.lt_of_lt_of_le (hS b h) hb)) hn hF.2⟩, hl, ?_⟩
    rw [← hj.comm]
    have hlt := Gr.blt hF.2
    refine wpG_sub hT _ _ (b :: (M ++ N)) (M ++ b :: N) _ (fun c hc => ?_) (rem_new hT hS hb A (fun p hp => hA p (List.mem_cons_of_mem _ hp)) F' (M ++ N) _ (fun h => ?_) h')
    · simp only [List.mem_cons, List.mem_append] at hc ⊢; rcases hc with h | h | h <;> simp [h]
    · rcases List.mem_append.1 h with h' | h'
      · have := hl b h'; omega
      · exact hn h'

theorem rem_cha {B : List (Oper × Kd)} : ∀ (A : List (Oper × Kd)), (∀ p ∈ A, Apt ops p.1 oi ∧ p.2.isFlo = true) → ∀ (F : World → Prop) (N : List Nat) (a : Act), wpG P W S T (A ++ (oi, .cha) :: B) F N a →
    ∀ w, GrS S W w → F w → steps P S oi a w (fun v w' => GrD S N w w' ∧ ∃ F' M, Stb F' ∧ F' w' ∧ (∀ b ∈ M, w.heap.size ≤ b ∧ b < w'.heap.size) ∧ wpG P W S T (A ++ B) F' (M ++ N) (a.put oi.dst v))
  | [], _, _, _, _, h, w, hw, hF => h w hw hF
  | (oj, .flo) :: A, hA, F, N, a, ⟨u, hu, h⟩, w, hw, hF => by
    have hj := (hA _ List.mem_cons_self).1
    refine ((rem_cha A (fun p hp => hA p (List.mem_cons_of_mem _ hp)) F N _ h w hw hF).congr (hj.exec_i a u).symm).mono fun v w' ⟨hg, F', M, hs', hF', hl, h'⟩ => ⟨hg, F', M, hs', hF', hl, u, fun x hx => by rw [hj.exec_j]; exact hu x hx, ?_⟩
    rw [← hj.comm]
    exact h'
  | (oj, .new X g) :: A, hA, _, _, _, _, _, _, _ => by have := (hA _ List.mem_cons_self).2; cases this
  | (oj, .cha) :: A, hA, _, _, _, _, _, _, _ => by have := (hA _ List.mem_cons_self).2; cases this

/-- Does i wait for j? -/
def waits (ops : Array Oper) : Nat → Nat → Nat → Bool
  | 0, _, _ => false
  | f + 1, i, j => ((((ops[i]?).map (·.after)).getD #[]).any fun e => Region.binds .any e && e.on == j) || (((ops[i]?).map (·.after)).getD #[]).any fun e => Region.binds .any e && waits ops f e.on j
theorem waits_listed {listed : Array Bool} (hc : ∀ j oj, ops[j]? = some oj → listed.getD j false = true → ∀ e ∈ oj.after, Region.binds .any e = true → listed.getD e.on false = true) {j : Nat} :
    ∀ (f i : Nat) (oi : Oper), ops[i]? = some oi → (∀ e ∈ oi.after, Region.binds .any e = true → listed.getD e.on false = true) → waits ops f i j = true → listed.getD j false = true
  | 0, _, _, _, _, h => by cases h
  | f + 1, i, oi, hi, ha, h => by
    unfold waits at h
    rw [hi] at h
    rcases (Bool.or_eq_true _ _ ▸ h) with h | h
    · obtain ⟨e, he, hb⟩ := Array.any_eq_true'.1 h
      simp only [Bool.and_eq_true, beq_iff_eq] at hb
      rw [← hb.2]; exact ha e he hb.1
    · obtain ⟨e, he, hb⟩ := Array.any_eq_true'.1 h
      simp only [Bool.and_eq_true] at hb
      have hl := ha e he hb.1
      have h' := hb.2
      cases hq : ops[e.on]? with
      | none => cases f <;> simp [waits, hq] at h'
      | some oq => exact waits_listed hc f e.on oq hq (hc _ _ hq hl) h'

def canonL (n g : Nat) : Array Bool := Array.replicate n true ++ Array.replicate g false
/-- The tail waits for all that is ahead of it. -/
def tailB (ops : Array Oper) (n : Nat) : Bool := (List.range ops.size).all fun t => decide (t < n) || (List.range n).all fun i => waits ops (t + 1) t i
def mixB (ops : Array Oper) (n : Nat) (kd : Nat → Kd) : Bool :=
  Region.noSelect ops && decide (n < ops.size) && tailB ops n &&
  (List.range n).all fun i => match ops[i]? with
    | none => false
    | some oi => oi.guard.isNone && oi.after.all (fun e => !Region.binds .any e || decide (e.on < i)) &&
      (List.range i).all fun j => match ops[j]? with
        | none => false
        | some oj => (oj.apart ops oi || waits ops (i + 1) i j) && (!(kd i).isCha || (kd j).isFlo || waits ops (i + 1) i j)

end

section
variable {P : Program} {ops : Array Oper} {W : World} {S : List Nat} {Q : Exit → Act → World → Prop} {T : (World → Prop) → List Nat → Act → Prop}

theorem getD_tf {l : Array Bool} {i : Nat} (h : ¬ l.getD i true = false) (hi : i < l.size) : l.getD i false = true := by
  simp [hi] at h ⊢; exact h

theorem anyG (hS : ∀ k ∈ S, k < W.heap.size) {n g : Nat} {kd : Nat → Kd} (hB : mixB ops n kd = true) (hg : n + g = ops.size) (pr : Nat → Oper × Kd) (hpr : ∀ i o, ops[i]? = some o → pr i = (o, kd i))
    (hTN : ∀ F N N' a, (∀ b, b ∈ N → b ∈ N') → T F N a → T F N' a)
    (hT : ∀ F N a w, T F N a → GrS S W w → F w → wpAny P .any ops Q g (canonL n g) a w) :
    ∀ (m : Nat) (L : List Nat) (listed : Array Bool) (a : Act) (w : World) (F : World → Prop) (N : List Nat), L.length = m → HeadInv .any ops n listed → (∀ i, i ∈ L ↔ i < n ∧ listed.getD i true = false) → L.Pairwise (· < ·) →
      Known W S F N w → wpG P W S T (L.map pr) F N a → wpAny P .any ops Q (m + g) listed a w := by
  simp only [mixB, Bool.and_eq_true, decide_eq_true_eq] at hB
  obtain ⟨⟨⟨hsel, hn⟩, htail⟩, hall⟩ := hB
  have hget : ∀ i, i < n → ∃ oi, ops[i]? = some oi ∧ oi.guard = none ∧ (∀ e ∈ oi.after, Region.binds .any e = true → e.on < i) ∧
      ∀ j, j < i → ∀ oj, ops[j]? = some oj → (oj.apart ops oi || waits ops (i + 1) i j) = true ∧ (!(kd i).isCha || (kd j).isFlo || waits ops (i + 1) i j) = true := by
    intro i hi
    have h1 := List.all_eq_true.1 hall i (List.mem_range.2 hi)
    cases ho : ops[i]? with
    | none => simp [ho] at h1
    | some oi =>
      simp only [ho, Bool.and_eq_true] at h1
      obtain ⟨⟨h2, h3⟩, h4⟩ := h1
      refine ⟨oi, rfl, by simpa using h2, fun e he hb => ?_, fun j hj oj hoj => ?_⟩
      · have := Array.all_eq_true_iff_forall_mem.1 h3 e he
        simp only [hb, Bool.not_true, Bool.false_or, decide_eq_true_eq] at this
        exact this
      · have h5 := List.all_eq_true.1 h4 j (List.mem_range.2 hj)
        simp only [hoj, Bool.and_eq_true] at h5
        exact h5
  intro m
  induction m with
  | zero =>
    intro L listed a w F N hm inv hL _ hkn h
    have hnil : L = [] := List.length_eq_zero_iff.1 hm
    subst hnil
    rw [Nat.zero_add]
    have : listed = canonL n (ops.size - n) := by
      refine Array.ext (by rw [inv.size]; simp [canonL]; omega) fun i h1 h2 => ?_
      rw [inv.size] at h1
      by_cases hi : i < n
      · have h3 : ¬ listed.getD i true = false := fun h => by have := (hL i).2 ⟨hi, h⟩; cases this
        have h4 := getD_tf h3 (by rw [inv.size]; exact h1)
        simp [inv.size, h1] at h4
        simp [canonL, hi, h4]
      · have h4 := inv.tail i (by omega) h1
        simp [inv.size, h1] at h4
        simp [canonL, Array.getElem_append, h4]; omega
    rw [this, show ops.size - n = g by omega]
    exact hT F N a w h hkn.gr hkn.fa
  | succ m ih =>
    intro L listed a w F N hm inv hL hp hkn h
    have hready : ∃ i0, i0 ∈ Region.ready .any ops listed ∧ i0 ∈ L := by
      cases L with
      | nil => simp at hm
      | cons i0 L =>
        have h0 := (hL i0).1 List.mem_cons_self
        obtain ⟨oi, ho, _, ha, _⟩ := hget i0 h0.1
        refine ⟨i0, mem_ready.2 ⟨h0.2, oi, ho, fun e he hb => ?_⟩, List.mem_cons_self⟩
        have hlt := ha e he hb
        refine getD_tf (fun hf => ?_) (by rw [inv.size]; omega)
        have hmem := (hL e.on).2 ⟨by omega, hf⟩
        rcases List.mem_cons.1 hmem with h' | h'
        · omega
        · have := (List.pairwise_cons.1 hp).1 _ h'; omega
    obtain ⟨i0, hr0, hm0⟩ := hready
    rw [show m + 1 + g = (m + g) + 1 by omega]
    refine ⟨fun h => (by rw [h] at hr0; cases hr0), fun i hi => ?_⟩
    have hin : i < n := by
      rcases Nat.lt_or_ge i n with h' | h'
      · exact h'
      · obtain ⟨_, ot, hot, hdt⟩ := mem_ready.1 hi
        have h1 := List.all_eq_true.1 htail i (List.mem_range.2 (Array.getElem?_eq_some_iff.1 hot).1)
        simp only [Bool.or_eq_true, decide_eq_true_eq] at h1
        have h2 := List.all_eq_true.1 (h1.resolve_left (by omega)) i0 (List.mem_range.2 ((hL i0).1 hm0).1)
        have h3 := waits_listed inv.closed (i + 1) i ot hot hdt h2
        rw [getD_both ((hL i0).1 hm0).2] at h3
        cases h3
    obtain ⟨hiun, oi', hoi', hdone⟩ := mem_ready.1 hi
    obtain ⟨oi, hoi, hgu, _, hrel⟩ := hget i hin
    obtain rfl : oi' = oi := Option.some.inj (hoi'.symm.trans hoi)
    have hiL : i ∈ L := (hL i).2 ⟨hin, hiun⟩
    obtain ⟨A, B, rfl⟩ := List.append_of_mem hiL
    have hpair := List.pairwise_append.1 hp
    have hAp : ∀ p ∈ A.map pr, Apt ops p.1 oi' ∧ ((kd i).isCha = true → p.2.isFlo = true) := by
      intro p hpm
      obtain ⟨j, hj, rfl⟩ := List.mem_map.1 hpm
      have hji : j < i := hpair.2.2 j hj i List.mem_cons_self
      have hjL := (hL j).1 (List.mem_append_left _ hj)
      obtain ⟨oj, hoj, _⟩ := hget j hjL.1
      have hno : waits ops (i + 1) i j = false := by
        cases hq : waits ops (i + 1) i j with
        | false => rfl
        | true =>
          have := waits_listed inv.closed (i + 1) i oi' hoi hdone hq
          rw [getD_both hjL.2] at this
          cases this
      have h5 := hrel j hji oj hoj
      rw [hno, Bool.or_false, Bool.or_false] at h5
      rw [hpr j oj hoj]
      refine ⟨⟨h5.1, fun cs b => Region.noSelect_spec hsel j oj cs b hoj, fun cs b => Region.noSelect_spec hsel i oi' cs b hoi⟩, fun hc => ?_⟩
      have := h5.2
      rw [hc] at this
      simpa using this
    have hL' : ∀ k, k ∈ A ++ B ↔ k < n ∧ (listed.setIfInBounds i true).getD k true = false := by
      intro k
      by_cases hki : k = i
      · subst hki
        have hlt : k < listed.size := by rw [inv.size]; omega
        have hnA : k ∉ A := fun hk => by have := hpair.2.2 k hk k List.mem_cons_self; omega
        have hnB : k ∉ B := fun hk => by have := (List.pairwise_cons.1 hpair.2.1).1 k hk; omega
        simp [hnA, hnB, hlt]
      · rw [getD_set_ne true (Ne.symm hki), ← hL k]
        simp [hki]
    have hp' : (A ++ B).Pairwise (· < ·) := List.pairwise_append.2 ⟨hpair.1, (List.pairwise_cons.1 hpair.2.1).2, fun x hx y hy => hpair.2.2 x hx y (List.mem_cons_of_mem _ hy)⟩
    have hm' : (A ++ B).length = m := by simp only [List.length_append, List.length_cons] at hm ⊢; omega
    have inv' := inv.set hi hin
    have go : ∀ (a' : Act) (w' : World) (F' : World → Prop) (N' : List Nat), Known W S F' N' w' → wpG P W S T (A.map pr ++ B.map pr) F' N' a' → wpAny P .any ops Q (m + g) (listed.setIfInBounds i true) a' w' :=
      fun a' w' F' N' h1 h4 => ih (A ++ B) _ a' w' F' N' hm' inv' hL' hp' h1 (by rw [List.map_append]; exact h4)
    rw [List.map_append, List.map_cons, hpr i oi' hoi] at h
    unfold wpOp
    simp only [hoi]
    rw [if_pos (by simp [Region.wanted, hgu])]
    refine .inl ?_
    cases hk : kd i with
    | flo =>
      rw [hk] at h
      obtain ⟨v, hv⟩ := ex_flo (A.map pr) (fun p hp => (hAp p hp).1) F N a w hkn h
      have h2 := rem_flo (A.map pr) (fun p hp => (hAp p hp).1) F N a hv h
      unfold Oper.wp
      rcases hv w hkn.gr with he | ⟨he, rfl⟩
      · rw [he]; exact go _ w F N hkn h2
      · rw [he]; exact go _ w F N hkn h2
    | new X =>
      rw [hk] at h
      have hv := ex_new (A.map pr) (fun p hp => (hAp p hp).1) F N a w hkn h
      have h2 := rem_new hTN hS hkn.gr.size (A.map pr) (fun p hp => (hAp p hp).1) F N a hkn.fresh h
      unfold Oper.wp
      rw [hv w hkn.gr]
      exact go _ (w.alloc X) _ _ (hkn.new X) h2
    | cha =>
      rw [hk] at h hAp
      exact (rem_cha (A.map pr) (fun p hp => ⟨(hAp p hp).1, (hAp p hp).2 rfl⟩) F N a h w hkn.gr hkn.fa).wp fun v w' ⟨hgr, F', M, hs', hF', hl, h'⟩ => go _ w' F' _ (hkn.call hgr hs' hF' hl) h'

theorem region_of_tail {id : Nat} {a : Act} {w : World} {F0 : World → Prop} (hF0s : Stb F0) (hF0 : F0 w.drew) (hS : ∀ k ∈ S, k < w.heap.size) {l : List Oper} {T : (World → Prop) → Act → Prop} (n : Nat) (ks : List Kd) (hm : P.follows .mixedOrders = true) (hB : mixB l.toArray n (fun i => ks.getD i .flo) = true) (hk : ks.length = n)
    (hT : ∀ F a w', T F a → GrS S w.drew w' → F w' → wpAny P .any l.toArray Q (l.length - n) (canonL n (l.length - n)) a w')
    (h : wpG P w.drew S (fun F _ a' => T F a') ((l.take n).zip ks) F0 [] a) : (Code.region id l.toArray true).wp P Q a w := by
  have hn : n < l.length := by
    simp only [mixB, Bool.and_eq_true, decide_eq_true_eq] at hB
    simpa using hB.1.1.2
  refine wp_region_any hm ?_
  have inv0 : HeadInv .any l.toArray n (Array.replicate l.toArray.size false) :=
    ⟨by simp, fun j oj _ hl => (by rw [getD_replicate_false] at hl; cases hl), fun t _ ht => getD_in (by simpa using ht) (getD_replicate_false _ _)⟩
  have hzip : (l.take n).zip ks = (List.range n).map (fun i => (l.getD i default, ks.getD i .flo)) := by
    refine List.ext_getElem (by simp [hk]; omega) fun i h1 h2 => ?_
    have hi : i < n := by simpa using h2
    simp [List.getD, List.getElem?_eq_getElem (show i < l.length by omega), List.getElem?_eq_getElem (show i < ks.length by omega)]
  rw [hzip] at h
  have := anyG (P := P) (Q := Q) (W := w.drew) (S := S) hS (g := l.length - n) hB (by simp; omega) (fun i => (l.getD i default, ks.getD i .flo))
    (fun i o ho => by simp only [List.getElem?_toArray] at ho; simp [List.getD, ho])
    (fun F N N' a' _ h => h)
    (fun F N a' w' hT' hw hF => hT F a' w' hT' hw hF)
    n (List.range n) (Array.replicate l.toArray.size false) a w.drew F0 [] (by simp) inv0
    (fun i => by
      rw [List.mem_range]
      exact ⟨fun hi => ⟨hi, getD_in (by simp; omega) (getD_replicate_false _ _)⟩, fun h => h.1⟩)
    List.pairwise_lt_range ⟨hF0s, GrS.refl _ _, hF0, (fun b hb => by cases hb), fun b hb => by cases hb⟩ h
  rw [show n + (l.length - n) = l.toArray.size by simp; omega] at this
  exact this
/-- **ONE WALK IN THE ORDER OF THE TEXT**: n operations, each of its kind; then the tail, which keeps its order. -/
theorem wp_region_mix {id : Nat} {a : Act} {w : World} {l : List Oper} (n : Nat) (ks : List Kd) (hm : P.follows .mixedOrders = true) (hB : (mixB l.toArray n (fun i => ks.getD i .flo) && Region.seqB .any l.toArray (l.length - n) n (canonL n (l.length - n))) = true) (hk : ks.length = n)
    (h : wpG P w.drew [] (fun F _ a' => ∀ w', Gr w.drew w' → F w' → wpList P l.toArray Q (l.drop n) a' w') ((l.take n).zip ks) (fun _ => True) [] a) : (Code.region id l.toArray true).wp P Q a w := by
  rw [Bool.and_eq_true] at hB
  refine region_of_tail (S := []) (F0 := fun _ => True) Stb.tt trivial (fun _ h => by cases h) (T := fun F a' => ∀ w', Gr w.drew w' → F w' → wpList P l.toArray Q (l.drop n) a' w') n ks hm hB.1 hk (fun F a' w' hT hw hF => ?_) h
  have hdl : (l.drop n).length = l.length - n := by simp
  have := wpAny_of_seq (md := .any) (Q' := Q) (l.drop n) n (canonL n (l.length - n)) a' w' (fun j => by simp [List.getElem?_drop]) (by rw [hdl]; exact hB.2) (hT w' hw.toGr hF)
  rwa [hdl] at this
/-- .. where a store into a block of S may stand among the operations. -/
theorem wp_region_mixS {id : Nat} {a : Act} {w : World} {l : List Oper} (S : List Nat) (F0 : World → Prop) (hF0s : Stb F0) (hF0 : F0 w.drew) (hS : ∀ k ∈ S, k < w.heap.size) (n : Nat) (ks : List Kd) (hm : P.follows .mixedOrders = true) (hB : (mixB l.toArray n (fun i => ks.getD i .flo) && Region.seqB .any l.toArray (l.length - n) n (canonL n (l.length - n))) = true) (hk : ks.length = n)
    (h : wpG P w.drew S (fun F _ a' => ∀ w', GrS S w.drew w' → F w' → wpList P l.toArray Q (l.drop n) a' w') ((l.take n).zip ks) F0 [] a) : (Code.region id l.toArray true).wp P Q a w := by
  rw [Bool.and_eq_true] at hB
  refine region_of_tail (S := S) (F0 := F0) hF0s hF0 hS (T := fun F a' => ∀ w', GrS S w.drew w' → F w' → wpList P l.toArray Q (l.drop n) a' w') n ks hm hB.1 hk (fun F a' w' hT hw hF => ?_) h
  have hdl : (l.drop n).length = l.length - n := by simp
  have := wpAny_of_seq (md := .any) (Q' := Q) (l.drop n) n (canonL n (l.length - n)) a' w' (fun j => by simp [List.getElem?_drop]) (by rw [hdl]; exact hB.2) (hT w' hw hF)
  rwa [hdl] at this
theorem wpList_op {i : Nat} {o : Oper} {rest : List Oper} {K : Act → World → Prop} {a : Act} {w : World} (hi : ops[i]? = some o) (hK : ∀ a w, wpList P ops Q rest a w → K a w) (h : wpList P ops Q (o :: rest) a w) : wpOp P ops Q i K a w := by
  have : wpOp P ops Q i (wpList P ops Q rest) a w := by unfold wpOp; simp only [hi]; exact h
  exact wpOp_mono hK this
/-- .. of two operations in either order. -/
def pairB (ops : Array Oper) (n : Nat) : Bool :=
  decide (Region.ready .any ops (canonL n 2) = [n, n + 1]) && decide (Region.ready .any ops ((canonL n 2).setIfInBounds n true) = [n + 1]) && decide (Region.ready .any ops ((canonL n 2).setIfInBounds (n + 1) true) = [n]) &&
  decide (Region.ready .any ops (((canonL n 2).setIfInBounds n true).setIfInBounds (n + 1) true) = []) && decide (Region.ready .any ops (((canonL n 2).setIfInBounds (n + 1) true).setIfInBounds n true) = [])
theorem wp_region_mix2 {id : Nat} {a : Act} {w : World} {l : List Oper} (n : Nat) (o1 o2 : Oper) (ks : List Kd) (hm : P.follows .mixedOrders = true) (hB : (mixB l.toArray n (fun i => ks.getD i .flo) && pairB l.toArray n) = true) (hd : l.drop n = [o1, o2]) (hk : ks.length = n)
    (h : wpG P w.drew [] (fun F _ a' => ∀ w', Gr w.drew w' → F w' → wpList P l.toArray Q [o1, o2] a' w' ∧ wpList P l.toArray Q [o2, o1] a' w') ((l.take n).zip ks) (fun _ => True) [] a) : (Code.region id l.toArray true).wp P Q a w := by
  rw [Bool.and_eq_true] at hB
  have hlen : l.length - n = 2 := by have := congrArg List.length hd; simpa using this
  have h1 : l.toArray[n]? = some o1 := by
    have := congrArg (·[0]?) hd
    simpa [List.getElem?_drop] using this
  have h2 : l.toArray[n + 1]? = some o2 := by
    have := congrArg (·[1]?) hd
    simpa [List.getElem?_drop] using this
  refine region_of_tail (S := []) (F0 := fun _ => True) Stb.tt trivial (fun _ h => by cases h) (T := fun F a' => ∀ w', Gr w.drew w' → F w' → wpList P l.toArray Q [o1, o2] a' w' ∧ wpList P l.toArray Q [o2, o1] a' w') n ks hm hB.1 hk (fun F a' w' hT hw hF => ?_) h
  rw [hlen]
  have hp := hB.2
  simp only [pairB, Bool.and_eq_true, decide_eq_true_eq] at hp
  obtain ⟨⟨⟨⟨p0, p1⟩, p2⟩, p3⟩, p4⟩ := hp
  obtain ⟨t1, t2⟩ := hT w' hw.toGr hF
  refine ⟨fun h => (by rw [p0] at h; cases h), fun i hi => ?_⟩
  rw [p0] at hi
  simp only [List.mem_cons, List.not_mem_nil, or_false] at hi
  rcases hi with rfl | rfl
  · refine wpList_op h1 (fun a w hq => ?_) t1
    refine ⟨fun h => (by rw [p1] at h; cases h), fun i' hi' => ?_⟩
    rw [p1] at hi'
    obtain rfl : i' = i + 1 := by simpa using hi'
    exact wpList_op (rest := []) h2 (fun a w h => ⟨p3, h⟩) hq
  · refine wpList_op h2 (fun a w hq => ?_) t2
    refine ⟨fun h => (by rw [p2] at h; cases h), fun i' hi' => ?_⟩
    rw [p2] at hi'
    obtain rfl : i' = n := by simpa using hi'
    exact wpList_op (rest := []) h1 (fun a w h => ⟨p4, h⟩) hq
end

section
variable {P : Program} {W : World} {Q : Exit → Act → World → Prop} {T : (World → Prop) → List Nat → Act → Prop}
theorem listG {ops : Array Oper} {rest : List Oper} (hT : ∀ F N a w, T F N a → Gr W w → F w → wpList P ops Q rest a w) : ∀ (L : List (Oper × Kd)), (∀ p ∈ L, p.1.guard = none) → ∀ (F : World → Prop) (N : List Nat) (a : Act) (w : World),
    Known W [] F N w → wpG P W [] T L F N a → wpList P ops Q (L.map (·.1) ++ rest) a w
  | [], _, F, N, a, w, hk, h => hT F N a w h hk.gr.toGr hk.fa
  | (o, .flo) :: L, hg, F, N, a, w, hk, ⟨v, hv, h⟩ => wpList_plain (hg _ List.mem_cons_self) fun K hK => by
      unfold Oper.wp
      rcases hv w hk.gr with he | ⟨he, rfl⟩
      · rw [he]; exact hK _ _ (listG hT L (fun p hp => hg p (List.mem_cons_of_mem _ hp)) F N _ w hk h)
      · rw [he]; exact hK _ _ (listG hT L (fun p hp => hg p (List.mem_cons_of_mem _ hp)) F N _ w hk h)
  | (o, .new X g) :: L, hg, F, N, a, w, hk, ⟨hm, h⟩ => wpList_plain (hg _ List.mem_cons_self) fun K hK => by
      unfold Oper.wp; rw [hm w hk.gr]; exact hK _ _ (listG hT L (fun p hp => hg p (List.mem_cons_of_mem _ hp)) _ _ _ _ (hk.new X) (h _ hk.gr.size hk.fresh))
  | (o, .cha) :: L, hg, F, N, a, w, hk, h => wpList_plain (hg _ List.mem_cons_self) fun K hK => by
      exact (h w hk.gr hk.fa).wp fun v w' ⟨hgr, F', M, hs', hF', hl, h'⟩ => hK _ _ (listG hT L (fun p hp => hg p (List.mem_cons_of_mem _ hp)) F' _ _ w' (hk.call hgr hs' hF' hl) h')
/-- The same of a region that keeps the order of the text. -/
theorem wp_region_seq {id : Nat} {a : Act} {w : World} {l : List Oper} (n : Nat) (ks : List Kd) (hB : (l.take n).all (·.guard.isNone) = true) (hk : ks.length = n) (hn : n ≤ l.length)
    (h : wpG P w [] (fun F _ a' => ∀ w', Gr w w' → F w' → wpList P l.toArray Q (l.drop n) a' w') ((l.take n).zip ks) (fun _ => True) [] a) : (Code.region id l.toArray false).wp P Q a w := by
  refine wp_region_lit ?_
  have e : ((l.take n).zip ks).map (·.1) ++ l.drop n = l := by
    rw [List.map_fst_zip (by simp; omega), List.take_append_drop]
  have := listG (P := P) (W := w) (Q := Q) (ops := l.toArray) (rest := l.drop n) (fun F N a w' hT hw hF => hT w' hw hF) ((l.take n).zip ks) (fun p hp => by
    have h1 := List.all_eq_true.1 hB p.1 (List.of_mem_zip hp).1
    simpa using h1) (fun _ => True) [] a w ⟨fun _ _ _ _ => trivial, GrS.refl _ _, trivial, (fun b hb => by cases hb), fun b hb => by cases hb⟩ h
  rwa [e] at this
end

section
variable {P : Program} {W : World} {S : List Nat} {T : (World → Prop) → List Nat → Act → Prop} {L : List (Oper × Kd)} {F : World → Prop} {N : List Nat} {a : Act} {o : Oper}
theorem gm_nil (h : T F N a) : wpG P W S T [] F N a := h
/-- A whole struct or array out of a block that stood. -/
theorem gm_loadS {t : TypeId} (x : Operand) (ho : o.op = .load t x) (b : Nat) (cs : Array Value) (t' : TypeId) (fr : Nat × Nat) (d : TypeDesc) (hb : W.heap[b]? = some (.cells cs t' fr)) (hbS : b ∉ S) (hx : a.eval x = .pointer (some ⟨b, 0, none⟩))
    (hu : P.underlying t = some d) (hd : (match d with | .struct _ | .array _ _ => true | _ => false) = true) (hi : (P.info? t).map (·.size) = some cs.size)
    (h : wpG P W S T L F N (a.put o.dst (.agg cs))) : wpG P W S T ((o, .flo) :: L) F N a :=
  ⟨_, fun w hw => .inl <| by
    unfold execOp
    simp only [ho, hx, Instr.loadAt, Instr.sureAddr, Sem.run_bind, Sem.run_pure, Result.andThen_ok, run_loadVar_row w b t' t cs fr d (hw.at hbS hb) hu hd hi], h⟩
theorem gm_load {t : TypeId} (x : Operand) (ho : o.op = .load t x) (b : Nat) (cs : Array Value) (t' : TypeId) (fr : Nat × Nat) (d : TypeDesc) (hb : W.heap[b]? = some (.cells cs t' fr)) (hx : a.eval x = .pointer (some ⟨b, 0, none⟩))
    (hu : P.underlying t = some d) (hd : (match d with | .struct _ | .array _ _ => true | _ => false) = true) (hi : (P.info? t).map (·.size) = some cs.size)
    (h : wpG P W [] T L F N (a.put o.dst (.agg cs))) : wpG P W [] T ((o, .flo) :: L) F N a :=
  gm_loadS x ho b cs t' fr d hb (fun h => by cases h) hx hu hd hi h
def goesB (P : Program) (f : FuncId) : Bool := match P.funcs[f]? with | some fn => !(fn.name == "runtime.NumGoroutine") && fn.body.isSome | none => false
theorem exec_call {f : FuncId} {l : List Operand} {ts : Array TypeId} {vl : List Value} (hb : goesB P f = true) (ho : o.op = .call { callee := .value (.func f), args := l.toArray, argTypes := ts }) (hv : l.map a.eval = vl) (w : World) :
    (execOp a.eval o).run P w = .ok (.enter f vl.toArray) w := by
  obtain ⟨dst, op, ty, pos, after, guard⟩ := o
  subst ho
  rw [execOp_call_go]
  subst hv
  unfold goesB at hb
  cases hf : P.funcs[f]? with
  | none => simp [hf] at hb
  | some fn =>
    simp only [hf, Bool.and_eq_true, Bool.not_eq_true', beq_eq_false_iff_ne] at hb
    have h2 : fn.body ≠ none := fun h => by simp [h] at hb
    simp [callFunc, hf, hb.1, h2]
/-- A call of a function of the program. -/
theorem gm_call {f : FuncId} {l : List Operand} {ts : Array TypeId} (vl : List Value) (hb : goesB P f = true) (ho : o.op = .call { callee := .value (.func f), args := l.toArray, argTypes := ts }) (hv : l.map a.eval = vl) (hF : Stb F)
    (h : ∀ w, GrS S W w → F w → Calls P f vl.toArray w (fun e w' => ∃ v, e = .returned v ∧ Gr w w' ∧ wpG P W S T L F N (a.put o.dst v))) : wpG P W S T ((o, .cha) :: L) F N a :=
  fun w hw hFw => .inl ⟨f, vl.toArray, exec_call hb ho hv w, (h w hw hFw).mono fun _ w' ⟨v, hv, hg, hr⟩ => ⟨v, hv, (hg.toS S).d, F, [], hF, hF _ _ hg hFw, fun _ hb => (by cases hb), hr⟩⟩
/-- One that leaves facts on the world, and new blocks. -/
theorem gm_callF {f : FuncId} {l : List Operand} {ts : Array TypeId} (vl : List Value) (hb : goesB P f = true) (ho : o.op = .call { callee := .value (.func f), args := l.toArray, argTypes := ts }) (hv : l.map a.eval = vl)
    (h : ∀ w, GrS S W w → F w → Calls P f vl.toArray w (fun e w' => ∃ v, e = .returned v ∧ Gr w w' ∧ ∃ F' N', Stb F' ∧ F' w' ∧ (∀ b ∈ N', w.heap.size ≤ b ∧ b < w'.heap.size) ∧ wpG P W S T L F' (N' ++ N) (a.put o.dst v))) : wpG P W S T ((o, .cha) :: L) F N a :=
  fun w hw hFw => .inl ⟨f, vl.toArray, exec_call hb ho hv w, (h w hw hFw).mono fun _ w' ⟨v, hv, hg, hr⟩ => ⟨v, hv, (hg.toS S).d, hr⟩⟩
theorem gm_flo (v : Value) (h : ∀ w, GrS S W w → (execOp a.eval o).run P w = .ok (.value v) w) (hr : wpG P W S T L F N (a.put o.dst v)) : wpG P W S T ((o, .flo) :: L) F N a := ⟨v, fun w hw => .inl (h w hw), hr⟩
theorem gm_move (x : Operand) (ho : o.op = .move x ∨ o.op = .assign x) (v : Value) (hx : a.eval x = v) (h : wpG P W S T L F N (a.put o.dst v)) : wpG P W S T ((o, .flo) :: L) F N a :=
  ⟨v, fun w _ => .inl <| by subst hx; unfold execOp; rcases ho with ho | ho <;> simp only [ho] <;> rfl, h⟩
theorem gm_alloc {t : TypeId} (ho : o.op = .alloc t) (X : Obj) (hm : ∀ w, (Instr.alloc t true (.tuple #[])).run P w = .ok (.pointer (some ⟨w.heap.size, 0, none⟩)) (w.alloc X))
    (h : ∀ b, W.heap.size ≤ b → b ∉ N → wpG P W S T L (fun w => F w ∧ w.heap[b]? = some X) (b :: N) (a.put o.dst (.pointer (some ⟨b, 0, none⟩)))) : wpG P W S T ((o, .new X fun b => .pointer (some ⟨b, 0, none⟩)) :: L) F N a :=
  ⟨fun w _ => by unfold execOp; simp only [ho, Sem.run_bind, hm, Result.andThen_ok, Sem.run_pure], h⟩
theorem gm_box {t : TypeId} (x : Operand) (ho : o.op = .box t x) (X : Obj) (v : Value) (hx : a.eval x = v) (hm : ∀ w, (Instr.box t v).run P w = .ok (.pointer (some ⟨w.heap.size, 0, none⟩)) (w.alloc X))
    (h : ∀ b, W.heap.size ≤ b → b ∉ N → wpG P W S T L (fun w => F w ∧ w.heap[b]? = some X) (b :: N) (a.put o.dst (.pointer (some ⟨b, 0, none⟩)))) : wpG P W S T ((o, .new X fun b => .pointer (some ⟨b, 0, none⟩)) :: L) F N a :=
  ⟨fun w _ => by subst hx; unfold execOp; simp only [ho, Sem.run_bind, hm, Result.andThen_ok, Sem.run_pure], h⟩
theorem gm_extract {vs : Array Value} (x : Operand) (i : Nat) (ho : o.op = .extract x i) (hx : a.eval x = .tuple vs) (v : Value) (hv : vs[i]? = some v) (h : wpG P W S T L F N (a.put o.dst v)) : wpG P W S T ((o, .flo) :: L) F N a :=
  ⟨v, fun w _ => .inl <| by unfold execOp; simp only [ho, hx]; simp [Instr.extract, hv], h⟩
theorem setRow_same {w : World} {b : Nat} {cs : Array Value} {t : TypeId} {fr : Nat × Nat} (h : w.heap[b]? = some (.cells cs t fr)) : w.setRow b cs = w := by
  obtain ⟨heap, tape, drawn, os, output⟩ := w
  have hh : ((⟨heap, tape, drawn, os, output⟩ : World).setRow b cs).heap = heap := by
    refine Array.ext_getElem? fun k => ?_
    by_cases hk : k = b
    · subst hk; exact (setRow_heap _ _ _ _ _ _ h).trans h.symm
    · exact setRow_other _ _ _ _ hk
  unfold World.setRow at hh ⊢
  simpa using hh
/-- A store of what stands there. -/
theorem gm_store_same {t : TypeId} (x y : Operand) (ho : o.op = .store t x y) (b : Nat) (cs : Array Value) (t' : TypeId) (hx : a.eval x = .pointer (some ⟨b, 0, none⟩)) (hy : a.eval y = .agg cs) (hbS : b ∉ S) (hd : o.dst = none)
    (hi : (P.info? t).map (·.size) = some cs.size) (h1 : cs.all (·.oneCell') = true) (hb : W.heap[b]? = some (.cells cs t' (0, 0))) (h : wpG P W S T L F N a) : wpG P W S T ((o, .flo) :: L) F N a :=
  ⟨undef, fun w hw => .inr ⟨by
    unfold execOp
    simp only [ho, hx, hy, Instr.storeAt, Instr.sureAddr, Sem.run_bind, Sem.run_pure, Result.andThen_ok, run_storeVar_row w b t' t cs cs (hw.at hbS hb) hi rfl h1, setRow_same (hw.at hbS hb)], rfl⟩, by rw [hd]; exact h⟩
/-- A store of a whole row into a block of S. -/
theorem gm_store {t : TypeId} (x y : Operand) (ho : o.op = .store t x y) (b : Nat) (old cs : Array Value) (t' : TypeId) (hx : a.eval x = .pointer (some ⟨b, 0, none⟩)) (hy : a.eval y = .agg cs) (hbS : b ∈ S) (hd : o.dst = none)
    (hi : (P.info? t).map (·.size) = some cs.size) (hold : old.size = cs.size) (h1 : cs.all (·.oneCell') = true) (G : World → Prop) (hFG : ∀ w, F w → G w ∧ w.heap[b]? = some (.cells old t' (0, 0))) (hG : Stb G) (hGs : ∀ w, G w → G (w.setRow b cs))
    (h : wpG P W S T L (fun w => G w ∧ w.heap[b]? = some (.cells cs t' (0, 0))) N a) : wpG P W S T ((o, .cha) :: L) F N a :=
  fun w hw hFw => .inr (.inl ⟨w.setRow b cs, by
    unfold execOp
    simp only [ho, hx, hy, Instr.storeAt, Instr.sureAddr, Sem.run_bind, Sem.run_pure, Result.andThen_ok, run_storeVar_row w b t' t old cs (hFG w hFw).2 hi hold h1], ((GrS.refl S w).setRow (.inr hbS) cs).d, _, [], hG.new b _, ⟨hGs w (hFG w hFw).1, setRow_heap _ _ _ _ _ _ (hFG w hFw).2⟩, fun _ hb => (by cases hb), by rw [hd]; exact h⟩)
/-- A store of a whole row into a block that is new. -/
theorem gm_storeN {t : TypeId} (x y : Operand) (ho : o.op = .store t x y) (b : Nat) (old cs : Array Value) (t' : TypeId) (hx : a.eval x = .pointer (some ⟨b, 0, none⟩)) (hy : a.eval y = .agg cs) (hbN : b ∈ N) (hd : o.dst = none)
    (hi : (P.info? t).map (·.size) = some cs.size) (hold : old.size = cs.size) (h1 : cs.all (·.oneCell') = true) (G : World → Prop) (hFG : ∀ w, F w → G w ∧ w.heap[b]? = some (.cells old t' (0, 0))) (hG : Stb G) (hGs : ∀ w, G w → G (w.setRow b cs))
    (h : wpG P W S T L (fun w => G w ∧ w.heap[b]? = some (.cells cs t' (0, 0))) N a) : wpG P W S T ((o, .cha) :: L) F N a :=
  fun w hw hFw => .inr (.inl ⟨w.setRow b cs, by
    unfold execOp
    simp only [ho, hx, hy, Instr.storeAt, Instr.sureAddr, Sem.run_bind, Sem.run_pure, Result.andThen_ok, run_storeVar_row w b t' t old cs (hFG w hFw).2 hi hold h1], ⟨[b], (fun d hd => by simp at hd; subst hd; exact hbN), (GrS.refl _ w).setRow (.inr (by simp)) cs⟩, _, [], hG.new b _, ⟨hGs w (hFG w hFw).1, setRow_heap _ _ _ _ _ _ (hFG w hFw).2⟩, fun _ hb => (by cases hb), by rw [hd]; exact h⟩)
/-- An operation that yields a value in the world as it has become, and leaves facts and new blocks. -/
theorem gm_val (h : ∀ w, GrS S W w → F w → ∃ v w', (execOp a.eval o).run P w = .ok (.value v) w' ∧ Gr w w' ∧ ∃ F' N', Stb F' ∧ F' w' ∧ (∀ b ∈ N', w.heap.size ≤ b ∧ b < w'.heap.size) ∧ wpG P W S T L F' (N' ++ N) (a.put o.dst v)) : wpG P W S T ((o, .cha) :: L) F N a :=
  fun w hw hFw => by
    obtain ⟨v, w', he, hg, hr⟩ := h w hw hFw
    exact .inr (.inr ⟨v, w', he, (hg.toS S).d, hr⟩)
end
end MixV
end Go.Proofs.YtjednaendedpdaaGreat
namespace Go.Proofs.YtjednaendedpdaaGreat
set_option maxRecDepth 100000
set_option linter.unusedVariables false
open Go Go.RowKit

/-- A block with one cell set. -/
def Obj.put (o : Obj) (i : Nat) (v : Value) : Obj :=
  match o with
  | .cells c e fr => .cells (c.setIfInBounds i v) e fr
  | o => o
theorem heap_set (w : World) (b i : Nat) (v : Value) (k : Nat) : (w.setCell ⟨b, i, none⟩ v).heap[k]? = if k = b then (w.heap[k]?).map (Obj.put · i v) else w.heap[k]? := by
  simp only [World.setCell, Array.getElem?_modify]
  by_cases h : b = k
  · subst h
    simp only [if_true]
    cases w.heap[b]? with
    | none => rfl
    | some o => cases o <;> rfl
  · rw [if_neg h, if_neg (fun e => h e.symm)]

/-- Of what was there, nothing but the blocks of S has turned. -/
structure Upd (S : List Nat) (w w' : World) : Prop where
  os : w'.os = w.os
  tape : w'.tape = w.tape
  output : w'.output = w.output
  size : w.heap.size ≤ w'.heap.size
  block : ∀ k, k < w.heap.size → k ∉ S → w'.heap[k]? = w.heap[k]?
theorem Upd.refl (S : List Nat) (w : World) : Upd S w w := ⟨rfl, rfl, rfl, Nat.le_refl _, fun _ _ _ => rfl⟩
theorem Upd.trans {S : List Nat} {a b c : World} (h : Upd S a b) (k : Upd S b c) : Upd S a c :=
  ⟨k.os.trans h.os, k.tape.trans h.tape, k.output.trans h.output, Nat.le_trans h.size k.size, fun i hi hn => (k.block i (Nat.lt_of_lt_of_le hi h.size) hn).trans (h.block i hi hn)⟩
theorem Upd.mono {S T : List Nat} {a b : World} (h : Upd S a b) (hs : ∀ k, k ∈ S → k ∈ T) : Upd T a b :=
  ⟨h.os, h.tape, h.output, h.size, fun i hi hn => h.block i hi (fun hm => hn (hs i hm))⟩
theorem Upd.setCell {S : List Nat} {a b : World} (h : Upd S a b) {p : Addr} (hp : p.block ∈ S ∨ a.heap.size ≤ p.block) (v : Value) : Upd S a (b.setCell p v) :=
  ⟨h.os, h.tape, h.output, by simpa using h.size, fun i hi hn => (Below.heap_setCell _ _ _ _ (fun e => by
    subst e
    rcases hp with hp | hp
    · exact hn hp
    · omega)).trans (h.block i hi hn)⟩
theorem Upd.alloc {S : List Nat} {a b : World} (h : Upd S a b) (o : Obj) : Upd S a (b.alloc o) :=
  ⟨h.os, h.tape, h.output, by have := h.size; simp; omega, fun i hi hn => (Below.heap_alloc _ _ _ (Nat.lt_of_lt_of_le hi h.size)).trans (h.block i hi hn)⟩
theorem Upd.drew {S : List Nat} {a b : World} (h : Upd S a b) : Upd S a b.drew := ⟨h.os, h.tape, h.output, h.size, h.block⟩
theorem Upd.drewN {S : List Nat} {a b : World} (h : Upd S a b) (n : Nat) : Upd S a (b.drewN n) := h.trans ⟨rfl, rfl, rfl, Nat.le_refl _, fun _ _ _ => rfl⟩
theorem Upd.of_below {S : List Nat} {a b : World} (h : Below a.heap.size a b) : Upd S a b := ⟨h.os, h.tape, h.output, h.size, fun i hi _ => h.block i hi⟩
/-- Blocks from B on alone have turned. -/
theorem Upd.below {S : List Nat} {B : Nat} {a b c : World} (h : Below B a b) (k : Upd S b c) (hS : ∀ i, i ∈ S → B ≤ i) (hB : B ≤ b.heap.size) : Below B a c :=
  ⟨k.os.trans h.os, k.tape.trans h.tape, k.output.trans h.output, Nat.le_trans h.size k.size, fun i hi => (k.block i (by omega) (fun hm => by have := hS i hm; omega)).trans (h.block i hi)⟩
theorem Upd.trans2 {S : List Nat} {a b c : World} {k : Nat} (h : Upd S a b) (u : Upd [k] b c) (hk : k ∈ S ∨ a.heap.size ≤ k) : Upd S a c :=
  ⟨u.os.trans h.os, u.tape.trans h.tape, u.output.trans h.output, Nat.le_trans h.size u.size, fun i hi hn => (u.block i (Nat.lt_of_lt_of_le hi h.size) (fun hm => by
    rw [List.mem_singleton] at hm; subst hm
    rcases hk with hk | hk
    · exact hn hk
    · omega)).trans (h.block i hi hn)⟩
end Go.Proofs.YtjednaendedpdaaGreat
namespace Go.Proofs.YtjednaendedpdaaGreat
set_option maxRecDepth 100000
set_option linter.unusedVariables false
open Go Go.RowKit

/-- A flash's state. -/
structure FS where
  b : List UInt8
  n : List Int
  steps : Int
  armed : Int
  keep : Int
  mask : UInt8
  dead : Bool

def bval (u : UInt8) : Value := .int .u8 (u.toNat : Int)
def nval (n : Int) : Value := .int .i64 n

/-- The numbers are in their bounds. -/
structure FS.Ok (s : FS) : Prop where
  armed : 0 ≤ s.armed ∧ s.armed ≤ 9223372036854775807
  keep : 0 ≤ s.keep ∧ s.keep ≤ 9223372036854775807
  len : s.b.length = 512 * s.n.length
  few : 1 ≤ s.n.length ∧ s.n.length ≤ 256

/-- A flash (its own type is t) at block p, its bytes at bb, its counts at cb. -/
structure Fl (t : TypeId) (w : World) (p bb cb : Nat) (s : FS) : Prop where
  st : ∃ bcap ccap, s.b.length ≤ bcap ∧ s.n.length ≤ ccap ∧ w.heap[p]? = some (.cells #[.slice (some ⟨bb, 0, none⟩) s.b.length bcap, .slice (some ⟨cb, 0, none⟩) s.n.length ccap, .int .i64 s.steps, .int .i64 s.armed, .int .i64 s.keep, .int .u8 (s.mask.toNat : Int), .bool s.dead] t (0, 0))
  by_ : ∃ sp fr, w.heap[bb]? = some (.cells (s.b.map bval ++ sp).toArray 5 fr) ∧ (fr = (0, 0) ∨ s.b.length ≤ fr.1)
  cn : ∃ sp, w.heap[cb]? = some (.cells (s.n.map nval ++ sp).toArray 3 (0, 0))
  d1 : p ≠ bb
  d2 : p ≠ cb
  d3 : bb ≠ cb

theorem Fl.lt {t : TypeId} {w : World} {p bb cb : Nat} {s : FS} (h : Fl t w p bb cb s) : p < w.heap.size ∧ bb < w.heap.size ∧ cb < w.heap.size := by
  obtain ⟨_, _, _, _, h1⟩ := h.st
  obtain ⟨_, _, h2, _⟩ := h.by_
  obtain ⟨_, h3⟩ := h.cn
  exact ⟨(Array.getElem?_eq_some_iff.1 h1).1, (Array.getElem?_eq_some_iff.1 h2).1, (Array.getElem?_eq_some_iff.1 h3).1⟩
theorem Fl.upd {t : TypeId} {w w' : World} {p bb cb : Nat} {s : FS} {S : List Nat} (h : Fl t w p bb cb s) (hu : Upd S w w') (h1 : p ∉ S) (h2 : bb ∉ S) (h3 : cb ∉ S) : Fl t w' p bb cb s := by
  have hl := h.lt
  obtain ⟨a, b, e1, e2, g1⟩ := h.st
  obtain ⟨x, fr, g2, hfr⟩ := h.by_
  obtain ⟨y, g3⟩ := h.cn
  exact ⟨⟨a, b, e1, e2, (hu.block _ hl.1 h1).trans g1⟩, ⟨x, fr, (hu.block _ hl.2.1 h2).trans g2, hfr⟩, ⟨y, (hu.block _ hl.2.2 h3).trans g3⟩, h.d1, h.d2, h.d3⟩

/-- The fields' cells. -/
theorem Fl.cells {t : TypeId} {w : World} {p bb cb : Nat} {s : FS} (h : Fl t w p bb cb s) :
    ∃ bcap ccap, s.b.length ≤ bcap ∧ s.n.length ≤ ccap ∧ w.cell? ⟨p, 0, none⟩ = some (.slice (some ⟨bb, 0, none⟩) s.b.length bcap) ∧ w.cell? ⟨p, 1, none⟩ = some (.slice (some ⟨cb, 0, none⟩) s.n.length ccap) ∧
      w.cell? ⟨p, 2, none⟩ = some (.int .i64 s.steps) ∧ w.cell? ⟨p, 3, none⟩ = some (.int .i64 s.armed) ∧ w.cell? ⟨p, 4, none⟩ = some (.int .i64 s.keep) ∧ w.cell? ⟨p, 5, none⟩ = some (.int .u8 (s.mask.toNat : Int)) ∧ w.cell? ⟨p, 6, none⟩ = some (.bool s.dead) := by
  obtain ⟨a, b, e1, e2, g1⟩ := h.st
  refine ⟨a, b, e1, e2, ?_, ?_, ?_, ?_, ?_, ?_, ?_⟩ <;> (rw [cell_of_row _ _ _ _ _ _ g1]; rfl)
theorem Fl.free {t : TypeId} {w : World} {p bb cb : Nat} {s : FS} (h : Fl t w p bb cb s) (i : Nat) : w.frozen? ⟨p, i, none⟩ = false := by
  obtain ⟨a, b, e1, e2, g1⟩ := h.st
  exact frozen_of_row _ _ _ _ _ g1

/-- A field set. -/
theorem Fl.set2 {t : TypeId} {w : World} {p bb cb : Nat} {s : FS} (h : Fl t w p bb cb s) (v : Int) : Fl t (w.setCell ⟨p, 2, none⟩ (.int .i64 v)) p bb cb { s with steps := v } := by
  obtain ⟨a, b, e1, e2, g1⟩ := h.st
  obtain ⟨x, fr, g2, hfr⟩ := h.by_
  obtain ⟨y, g3⟩ := h.cn
  exact ⟨⟨a, b, e1, e2, by rw [heap_setCell_same _ _ _ _ _ _ g1]; rfl⟩, ⟨x, fr, by rw [heap_setCell_other _ _ _ _ h.d1.symm]; exact g2, hfr⟩, ⟨y, by rw [heap_setCell_other _ _ _ _ h.d2.symm]; exact g3⟩, h.d1, h.d2, h.d3⟩
theorem Fl.set3 {t : TypeId} {w : World} {p bb cb : Nat} {s : FS} (h : Fl t w p bb cb s) (v : Int) : Fl t (w.setCell ⟨p, 3, none⟩ (.int .i64 v)) p bb cb { s with armed := v } := by
  obtain ⟨a, b, e1, e2, g1⟩ := h.st
  obtain ⟨x, fr, g2, hfr⟩ := h.by_
  obtain ⟨y, g3⟩ := h.cn
  exact ⟨⟨a, b, e1, e2, by rw [heap_setCell_same _ _ _ _ _ _ g1]; rfl⟩, ⟨x, fr, by rw [heap_setCell_other _ _ _ _ h.d1.symm]; exact g2, hfr⟩, ⟨y, by rw [heap_setCell_other _ _ _ _ h.d2.symm]; exact g3⟩, h.d1, h.d2, h.d3⟩
theorem Fl.set4 {t : TypeId} {w : World} {p bb cb : Nat} {s : FS} (h : Fl t w p bb cb s) (v : Int) : Fl t (w.setCell ⟨p, 4, none⟩ (.int .i64 v)) p bb cb { s with keep := v } := by
  obtain ⟨a, b, e1, e2, g1⟩ := h.st
  obtain ⟨x, fr, g2, hfr⟩ := h.by_
  obtain ⟨y, g3⟩ := h.cn
  exact ⟨⟨a, b, e1, e2, by rw [heap_setCell_same _ _ _ _ _ _ g1]; rfl⟩, ⟨x, fr, by rw [heap_setCell_other _ _ _ _ h.d1.symm]; exact g2, hfr⟩, ⟨y, by rw [heap_setCell_other _ _ _ _ h.d2.symm]; exact g3⟩, h.d1, h.d2, h.d3⟩
theorem Fl.set5 {t : TypeId} {w : World} {p bb cb : Nat} {s : FS} (h : Fl t w p bb cb s) (v : UInt8) : Fl t (w.setCell ⟨p, 5, none⟩ (.int .u8 (v.toNat : Int))) p bb cb { s with mask := v } := by
  obtain ⟨a, b, e1, e2, g1⟩ := h.st
  obtain ⟨x, fr, g2, hfr⟩ := h.by_
  obtain ⟨y, g3⟩ := h.cn
  exact ⟨⟨a, b, e1, e2, by rw [heap_setCell_same _ _ _ _ _ _ g1]; rfl⟩, ⟨x, fr, by rw [heap_setCell_other _ _ _ _ h.d1.symm]; exact g2, hfr⟩, ⟨y, by rw [heap_setCell_other _ _ _ _ h.d2.symm]; exact g3⟩, h.d1, h.d2, h.d3⟩
theorem Fl.set6 {t : TypeId} {w : World} {p bb cb : Nat} {s : FS} (h : Fl t w p bb cb s) (v : Bool) : Fl t (w.setCell ⟨p, 6, none⟩ (.bool v)) p bb cb { s with dead := v } := by
  obtain ⟨a, b, e1, e2, g1⟩ := h.st
  obtain ⟨x, fr, g2, hfr⟩ := h.by_
  obtain ⟨y, g3⟩ := h.cn
  exact ⟨⟨a, b, e1, e2, by rw [heap_setCell_same _ _ _ _ _ _ g1]; rfl⟩, ⟨x, fr, by rw [heap_setCell_other _ _ _ _ h.d1.symm]; exact g2, hfr⟩, ⟨y, by rw [heap_setCell_other _ _ _ _ h.d2.symm]; exact g3⟩, h.d1, h.d2, h.d3⟩
theorem Fl.to {t : TypeId} {w : World} {p bb cb : Nat} {s s' : FS} (h : Fl t w p bb cb s) (e : s = s') : Fl t w p bb cb s' := e ▸ h

/-- A step is counted: does the power go in it? -/
def FS.step (s : FS) : FS := { s with steps := wrap64 (s.steps + 1), armed := if s.armed = 0 then 0 else s.armed - 1, dead := if s.armed = 0 then s.dead else decide (s.armed - 1 = 0) }
def FS.goes (s : FS) : Bool := if s.armed = 0 then false else decide (s.armed - 1 = 0)

set_option maxHeartbeats 1000000 in
theorem step_any (p bb cb : Nat) (s : FS) (w : World) (h : Fl 89 w p bb cb s) (hok : s.Ok) :
    Calls Tryz.prog 101 #[.pointer (some ⟨p, 0, none⟩)] w fun e w' => e = .returned (.bool s.goes) ∧ Fl 89 w' p bb cb s.step ∧ Upd [p] w w' := by
  obtain ⟨bcap, ccap, hb, hc, c0, c1, c2, c3, c4, c5, c6⟩ := h.cells
  have f2 := h.free 2; have f3 := h.free 3; have f6 := h.free 6
  have hkeep := hok.armed
  by_cases ha : s.armed = 0
  · have ha' : (s.armed == 0) = true := by simpa using ha
    have HA := Box.mk ha; clear ha
    clear c0 c1 c4 c5
    go_enter Tryz.func101, Tryz.ntmps101
    go_wp2
    go_ret
    refine ⟨by simp [FS.goes, HA.out], (h.set2 _).to (by cases s; have := HA.out; simp_all [FS.step]), (Upd.refl _ _).setCell (by simp) _⟩
  · have ha' : (s.armed == 0) = false := by simpa using ha
    have HA := Box.mk ha; clear ha
    clear c0 c1 c4 c5
    go_enter Tryz.func101, Tryz.ntmps101
    go_wp2
    go_ret
    refine ⟨?_, (((h.set2 _).set3 _).set6 _).to (by cases s; have := HA.out; simp_all [FS.step]; rfl), (((Upd.refl _ _).setCell (by simp) _).setCell (by simp) _).setCell (by simp) _⟩
    simp only [FS.goes, if_neg HA.out]
    rfl

/-- Do bytes lie on it? -/
@[irreducible] def onB (l : Nat) (at_ n : Int) : Bool := decide (0 ≤ at_ ∧ 0 ≤ n ∧ at_ + n ≤ l)

set_option maxHeartbeats 1000000 in
theorem within_any (p bb cb : Nat) (s : FS) (at_ n : Int) (w : World) (h : Fl 89 w p bb cb s) (hok : s.Ok) (ba : -9223372036854775808 ≤ at_ ∧ at_ ≤ 9223372036854775807) (bn : -9223372036854775808 ≤ n ∧ n ≤ 9223372036854775807) :
    Calls Tryz.prog 81 #[.pointer (some ⟨p, 0, none⟩), .int .i64 at_, .int .i64 n] w fun e w' => e = .returned (.bool (onB s.b.length at_ n)) ∧ w = w' := by
  obtain ⟨bcap, ccap, hb, hc, c0, c1, c2, c3, c4, c5, c6⟩ := h.cells
  have hlen := hok.len
  have hfew := hok.few
  have hl : (s.b.length : Int) ≤ 131072 := by omega
  clear c1 c2 c3 c4 c5 c6 hlen hfew hc hb
  generalize s.b.length = l at c0 hl ⊢
  by_cases h0 : 0 ≤ at_
  · have h0' : decide (0 ≤ at_) = true := by simpa using h0
    by_cases h1 : 0 ≤ n
    · have h1' : decide (0 ≤ n) = true := by simpa using h1
      by_cases h2 : at_ ≤ l
      · have h2' : decide (at_ ≤ (l : Int)) = true := by simpa using h2
        have E : Box (onB l at_ n = decide (n ≤ (l : Int) - at_)) := ⟨by unfold onB; rw [decide_eq_decide]; omega⟩
        go_enter Tryz.func81, Tryz.ntmps81
        go_wp2
        go_ret
        exact ⟨by rw [E.out]; rfl, rfl⟩
      · have h2' : decide (at_ ≤ (l : Int)) = false := by simpa using h2
        have E : Box (onB l at_ n = false) := ⟨by unfold onB; rw [decide_eq_false_iff_not]; omega⟩
        go_enter Tryz.func81, Tryz.ntmps81
        go_wp2
        go_ret
        exact ⟨by rw [E.out]; rfl, rfl⟩
    · have h1' : decide (0 ≤ n) = false := by simpa using h1
      have E : Box (onB l at_ n = false) := ⟨by unfold onB; rw [decide_eq_false_iff_not]; omega⟩
      go_enter Tryz.func81, Tryz.ntmps81
      go_wp2
      go_ret
      exact ⟨by rw [E.out]; rfl, rfl⟩
  · have h0' : decide (0 ≤ at_) = false := by simpa using h0
    have E : Box (onB l at_ n = false) := ⟨by unfold onB; rw [decide_eq_false_iff_not]; omega⟩
    go_enter Tryz.func81, Tryz.ntmps81
    go_wp2
    go_ret
    exact ⟨by rw [E.out]; rfl, rfl⟩

/-- What a step answers. -/
@[irreducible] def toldI (g : Bool) : Int := if g then 2 else 0
theorem told_any (g : Bool) (w : World) :
    Calls Tryz.prog 102 #[.bool g] w fun e w' => e = .returned (.int .i64 (toldI g)) ∧ w = w' := by
  have e1 : Box (toldI true = 2) := ⟨by unfold toldI; rfl⟩
  have e2 : Box (toldI false = 0) := ⟨by unfold toldI; rfl⟩
  cases g
  · go_enter Tryz.func102, Tryz.ntmps102
    go_wp2
    go_ret
    exact ⟨by rw [e2.out]; rfl, rfl⟩
  · go_enter Tryz.func102, Tryz.ntmps102
    go_wp2
    go_ret
    exact ⟨by rw [e1.out]; rfl, rfl⟩
end Go.Proofs.YtjednaendedpdaaGreat
namespace Go.Proofs.YtjednaendedpdaaGreat
set_option maxRecDepth 100000
set_option linter.unusedVariables false
open Go Go.RowKit

/-- What a byte becomes when the i-th byte of a Program comes to it. -/
def progByte (gone : Bool) (keep : Int) (mask : UInt8) (i : Nat) (old c : UInt8) : UInt8 :=
  if gone = false ∨ (i : Int) < keep then old &&& c else if (i : Int) = keep then old &&& (c ||| mask) else old
def progBytes (b : List UInt8) (A : Nat) (l : List UInt8) (gone : Bool) (keep : Int) (mask : UInt8) : List UInt8 :=
  b.mapIdx fun k old => if A ≤ k then (match l[k - A]? with | some c => progByte gone keep mask (k - A) old c | none => old) else old
theorem progBytes_length (b : List UInt8) (A : Nat) (l : List UInt8) (gone : Bool) (keep : Int) (mask : UInt8) : (progBytes b A l gone keep mask).length = b.length := by simp [progBytes]
theorem progBytes_nil (b : List UInt8) (A : Nat) (gone : Bool) (keep : Int) (mask : UInt8) : progBytes b A [] gone keep mask = b := by
  apply List.ext_getElem? ; intro i; simp [progBytes]
theorem progBytes_get (b : List UInt8) (A : Nat) (l : List UInt8) (gone : Bool) (keep : Int) (mask : UInt8) (k : Nat) (h : l.length ≤ k - A ∨ k < A) : (progBytes b A l gone keep mask)[k]? = b[k]? := by
  simp only [progBytes, List.getElem?_mapIdx]
  cases hb : b[k]? with
  | none => rfl
  | some o =>
    simp only [Option.map_some, Option.some.injEq]
    split
    · rename_i hA
      rw [List.getElem?_eq_none (by omega)]
    · rfl
theorem progBytes_step (b : List UInt8) (A : Nat) (l : List UInt8) (gone : Bool) (keep : Int) (mask : UInt8) (i : Nat) (c old : UInt8) (hc : l[i]? = some c) (ho : b[A + i]? = some old) :
    (progBytes b A (l.take i) gone keep mask).set (A + i) (progByte gone keep mask i old c) = progBytes b A (l.take (i + 1)) gone keep mask := by
  have hil : i < l.length := (List.getElem?_eq_some_iff.1 hc).1
  have hbl : A + i < b.length := (List.getElem?_eq_some_iff.1 ho).1
  apply List.ext_getElem?
  intro k
  rw [List.getElem?_set]
  split
  · rename_i h; subst h
    simp only [progBytes_length, hbl, if_true]
    simp only [progBytes, List.getElem?_mapIdx, ho, Option.map_some]
    rw [if_pos (by omega), show A + i - A = i from by omega, List.getElem?_take, if_pos (by omega), hc]
  · rename_i h
    simp only [progBytes, List.getElem?_mapIdx]
    congr 1
    funext old
    by_cases hA : A ≤ k
    · rw [if_pos hA, if_pos hA, List.getElem?_take, List.getElem?_take]
      by_cases hk : k - A < i
      · rw [if_pos hk, if_pos (by omega)]
      · rw [if_neg hk, if_neg (by omega)]
    · rw [if_neg hA, if_neg hA]
theorem progBytes_rest (b : List UInt8) (A : Nat) (l : List UInt8) (keep : Int) (mask : UInt8) (i : Nat) (hi : keep < i) :
    progBytes b A (l.take i) true keep mask = progBytes b A l true keep mask := by
  apply List.ext_getElem?
  intro k
  simp only [progBytes, List.getElem?_mapIdx]
  congr 1
  funext old
  by_cases hA : A ≤ k
  · rw [if_pos hA, if_pos hA, List.getElem?_take]
    by_cases hk : k - A < i
    · rw [if_pos hk]
    · rw [if_neg hk]
      cases hl : l[k - A]? with
      | none => rfl
      | some c => simp only [progByte]; rw [if_neg (by simp; omega), if_neg (by omega)]
  · rw [if_neg hA, if_neg hA]

/-- A byte of the flash set. -/
theorem Fl.setb {t : TypeId} {w : World} {p bb cb : Nat} {s : FS} (h : Fl t w p bb cb s) (k : Nat) (hk : k < s.b.length) (v : UInt8) (n : Int) (hn : n = (v.toNat : Int)) :
    Fl t (w.setCell ⟨bb, k, none⟩ (.int .u8 n)) p bb cb { s with b := s.b.set k v } := by
  subst hn
  obtain ⟨a, b, e1, e2, g1⟩ := h.st
  obtain ⟨x, fr, g2, hfr⟩ := h.by_
  obtain ⟨y, g3⟩ := h.cn
  refine ⟨⟨a, b, by simpa using e1, e2, by rw [heap_setCell_other _ _ _ _ h.d1]; simpa using g1⟩, ⟨x, fr, ?_, by simpa using hfr⟩, ⟨y, by rw [heap_setCell_other _ _ _ _ h.d3.symm]; exact g3⟩, h.d1, h.d2, h.d3⟩
  rw [heap_set, if_pos rfl, g2]
  simp only [Option.map_some, Obj.put]
  congr 2
  rw [List.setIfInBounds_toArray, List.set_append_left _ _ (by simpa using hk), show Value.int .u8 (v.toNat : Int) = bval v from rfl, ← List.map_set]
theorem Fl.byte {t : TypeId} {w : World} {p bb cb : Nat} {s : FS} (h : Fl t w p bb cb s) (k : Nat) (u : UInt8) (hk : s.b[k]? = some u) : w.cell? ⟨bb, k, none⟩ = some (.int .u8 (u.toNat : Int)) ∧ w.frozen? ⟨bb, k, none⟩ = false := by
  obtain ⟨x, fr, g2, hfr⟩ := h.by_
  have hkl := (List.getElem?_eq_some_iff.1 hk).1
  refine ⟨?_, ?_⟩
  rotate_left
  · simp only [World.frozen?, g2]
    rcases hfr with rfl | hfr
    · simp
    · simp; omega
  rw [cell_of_row _ _ _ _ _ _ g2, List.getElem?_toArray, List.getElem?_append_left (by have := (List.getElem?_eq_some_iff.1 hk).1; simpa using this), List.getElem?_map, hk]; rfl

theorem and_u8 (a c : UInt8) : bits .and .u8 (a.toNat : Int) (c.toNat : Int) = ((a &&& c).toNat : Int) := by rw [u8_and_nat _ _ a.toNat_lt c.toNat_lt, UInt8.toNat_and]
theorem or_u8 (a c : UInt8) : bits .or .u8 (a.toNat : Int) (c.toNat : Int) = ((a ||| c).toNat : Int) := by rw [u8_or_nat _ _ a.toNat_lt c.toNat_lt, UInt8.toNat_or]

/-- Program: the state behind it, and the error's number. -/
def FS.program (s : FS) (at_ : Int) (l : List UInt8) : FS × Int :=
  if s.dead then (s, 2)
  else if onB s.b.length at_ l.length = false then (s, 111)
  else if l = [] then (s, 0)
  else if at_ / 64 ≠ (at_ + l.length - 1) / 64 then (s, 112)
  else ({ s.step with b := progBytes s.b at_.toNat l s.goes s.keep s.mask }, toldI s.goes)

set_option maxRecDepth 100000 in
set_option maxHeartbeats 2000000 in
theorem prog_loop (p bb cb A : Nat) (s : FS) (str : ByteArray) (w : World) (h : Fl 89 w p bb cb s) (hok : s.Ok) (hd : s.dead = false) (hl : A + str.size ≤ s.b.length) (hne : str.size ≠ 0) (hp : (A : Int) / 64 = ((A : Int) + str.size - 1) / 64) :
    Calls Tryz.prog 80 #[.pointer (some ⟨p, 0, none⟩), .int .i64 A, .string str] w fun e w' => e = .returned (.int .i64 (toldI s.goes)) ∧ Fl 89 w' p bb cb { s.step with b := progBytes s.b A str.data.toList s.goes s.keep s.mask } ∧ Upd [p, bb] w w' := by
  obtain ⟨bcap, ccap, hb, hc, c0, c1, c2, c3, c4, c5, c6⟩ := h.cells
  rw [hd] at c6
  have hb2 : (s.b.length : Int) ≤ 131072 := by have := hok.len; have := hok.few; omega
  have hon : onB s.b.length (A : Int) (str.size : Int) = true := by unfold onB; rw [decide_eq_true_iff]; omega
  have hstr : (str.toList == []) = false := by rw [ByteArray.toList_eq, beq_eq_false_iff_ne]; intro e; apply hne; have := congrArg List.length e; simpa using this
  have hstr2 : str.toList.isEmpty = false := by simpa using hstr
  have hpg : ((A : Int) / 64 != ((A : Int) + str.size - 1) / 64) = false := by rw [bne_eq_false_iff_eq]; exact hp
  have HP := Box.mk hp; clear hp hd
  have HON := Box.mk hon; clear hon
  have HF := Box.mk h
  clear c1 c2 c3 c4 c5 hc h
  go_enter Tryz.func80, Tryz.ntmps80
  go_wp2_with fail
  refine (within_any p bb cb s A str.size _ HF.out hok (by omega) (by omega)).mono ?_
  rintro e w1 ⟨rfl, rfl⟩
  rw [HON.out]
  go_wp2_with fail
  refine (step_any p bb cb s _ HF.out hok).mono ?_
  rintro e w1 ⟨rfl, hf1, hu1⟩
  have hkeep := hok.keep
  obtain ⟨bcap1, ccap1, hb1, hc1, d0, d1, d2, d3, d4, d5, d6⟩ := hf1.cells
  have HF1 := Box.mk hf1; clear hf1
  have HU1 := Box.mk hu1; clear hu1
  have HNE := Box.mk hne; clear hne
  have HL := Box.mk hl
  clear c0 c6 d0 d1 d2 d3 d4 d5 d6 hb1 hc1 hb
  generalize hG : s.goes = G
  have HG := Box.mk hG; clear hG
  go_wp2_with fail
  go_loopw [39] (fun i wr => ∃ k : Nat, k ≤ str.size ∧ i = .int .i64 k ∧ Fl 89 wr p bb cb { s.step with b := progBytes s.b A (str.data.toList.take k) G s.keep s.mask } ∧ Upd [p, bb] w wr) (fun i _ => str.size - (intOf i).toNat)
  case atStart => exact ⟨0, by omega, rfl, HF1.out.to (by rw [List.take_zero, progBytes_nil]; rfl), HU1.out.mono (by simp)⟩
  case round =>
    clear HF1 HU1
    obtain ⟨k, hk, rfl, hf, hu⟩ := hrel
    obtain ⟨bcapr, ccapr, hbr, hcr, d0, d1, d2, d3, d4, d5, d6⟩ := hf.cells
    simp only [progBytes_length] at d0 hbr
    have hkp : s.step.keep = s.keep := rfl
    have hmk : s.step.mask = s.mask := rfl
    simp only [hkp, hmk] at d4 d5
    clear hkp hmk d1 d2 d3 d6 hcr
    have HU := Box.mk hu; clear hu
    by_cases hlt : k < str.size
    · have hAk : A + k < s.b.length := by omega
      obtain ⟨old, ho⟩ : ∃ old, s.b[A + k]? = some old := ⟨_, List.getElem?_eq_getElem hAk⟩
      have hc : str.data.toList[k]? = some str[k] := by rw [List.getElem?_eq_getElem (by simpa using hlt)]; rfl
      have hob : (progBytes s.b A (str.data.toList.take k) G s.keep s.mask)[A + k]? = some old := by
        rw [progBytes_get _ _ _ _ _ _ _ (by left; simp; omega)]; exact ho
      obtain ⟨e1, e2⟩ := hf.byte (A + k) old hob
      have hst := progBytes_step s.b A str.data.toList G s.keep s.mask k str[k] old hc ho
      have HST := Box.mk hst; clear hst
      have HFR := Box.mk hf; clear hf
      have hset := fun (v : UInt8) (n : Int) hn => (HFR.out.setb (A + k) (by simp only [progBytes_length]; exact hAk) v n hn)
      have HSET := Box.mk hset; clear hset ho hob hc
      have q1 := and_u8 old str[k]; have q2 := or_u8 str[k] s.mask; have q3 := and_u8 old (str[k] ||| s.mask)
      have hcv := str[k].toNat_lt; have hov := old.toNat_lt
      have hkI : (k : Int) < (str.size : Int) := by omega
      cases G
      · go_wp2
        refine ⟨⟨k + 1, by omega, by go_num, (HSET.out (old &&& str[k]) _ (by rw [UInt8.toNat_and])).to ?_, HU.out.setCell (by simp) _⟩, by simp [intOf]; omega⟩
        rw [← HST.out]; simp [progByte]
      · by_cases hc1 : (k : Int) < s.keep
        · have hc1' : decide (s.keep ≤ (k : Int)) = false := by simpa using hc1
          have HC1 := Box.mk hc1
          go_wp2
          refine ⟨⟨k + 1, by omega, by go_num, (HSET.out (old &&& str[k]) _ (by rw [UInt8.toNat_and])).to ?_, HU.out.setCell (by simp) _⟩, by simp [intOf]; omega⟩
          rw [← HST.out]; simp [progByte, HC1.out]
        · have hc1' : decide (s.keep ≤ (k : Int)) = true := by simp; omega
          have HC1 := Box.mk hc1
          by_cases hc2 : (k : Int) = s.keep
          · have hc2' : ¬ s.keep < (k : Int) := by omega
            have HC2 := Box.mk hc2; clear hc2
            go_wp2
            refine ⟨⟨k + 1, by omega, by go_num, (HSET.out (old &&& (str[k] ||| s.mask)) _ (by rw [← UInt8.toNat_or, and_u8])).to ?_, HU.out.setCell (by simp) _⟩, by simp [intOf]; omega⟩
            rw [← HST.out]; simp only [progByte]; rw [if_neg (by simp; omega), if_pos HC2.out]
          · have hc2' : s.keep < (k : Int) := by omega
            have HC2 := Box.mk hc2'
            clear hc2
            go_wp2_with fail
            refine (told_any true _).mono ?_
            rintro e w2 ⟨rfl, rfl⟩
            go_wp2
            go_ret
            refine ⟨by rw [HG.out]; rfl, HFR.out.to ?_, HU.out⟩
            rw [HG.out, progBytes_rest _ _ _ _ _ _ HC2.out]
    · have hk2 : k = str.size := by omega
      subst hk2
      have HFR := Box.mk hf; clear hf
      go_wp2_with fail
      refine (told_any G _).mono ?_
      rintro e w2 ⟨rfl, rfl⟩
      go_wp2
      go_ret
      refine ⟨by rw [HG.out]; rfl, HFR.out.to ?_, HU.out⟩
      rw [HG.out, List.take_of_length_le (by simp)]

/-- The numbers of a state stay in their bounds. -/
theorem FS.Ok.step {s : FS} (h : s.Ok) : s.step.Ok := by
  have := h.armed
  exact ⟨by simp only [FS.step]; split <;> omega, h.keep, h.len, h.few⟩
theorem FS.Ok.setb {s : FS} (h : s.Ok) (b : List UInt8) (hb : b.length = s.b.length) : ({ s with b := b } : FS).Ok := ⟨h.armed, h.keep, by simp only; rw [hb]; exact h.len, h.few⟩
theorem FS.program_ok {s : FS} (h : s.Ok) (at_ : Int) (l : List UInt8) : (s.program at_ l).1.Ok := by
  unfold FS.program
  (repeat' split) <;> first | exact h | exact h.step.setb _ (progBytes_length _ _ _ _ _ _)

set_option maxRecDepth 100000 in
set_option maxHeartbeats 2000000 in
/-- (*Flash).Program. -/
theorem program_any (p bb cb : Nat) (s : FS) (at_ : Int) (str : ByteArray) (w : World) (h : Fl 89 w p bb cb s) (hok : s.Ok) (ba : -9223372036854775808 ≤ at_ ∧ at_ ≤ 9223372036854775807) (hs : str.size ≤ 9223372036854775807) :
    Calls Tryz.prog 80 #[.pointer (some ⟨p, 0, none⟩), .int .i64 at_, .string str] w fun e w' => e = .returned (.int .i64 (s.program at_ str.data.toList).2) ∧ Fl 89 w' p bb cb (s.program at_ str.data.toList).1 ∧ Upd [p, bb] w w' := by
  have hlen : str.data.toList.length = str.size := by simp
  have HF := Box.mk h
  obtain ⟨bcap, ccap, hb, hc, c0, c1, c2, c3, c4, c5, c6⟩ := h.cells
  clear c0 c1 c2 c3 c4 c5 hb hc h
  by_cases hd : s.dead = true
  · have E : Box (s.program at_ str.data.toList = (s, 2)) := ⟨by unfold FS.program; rw [if_pos hd]⟩
    rw [hd] at c6; clear hd
    rw [E.out]
    go_enter Tryz.func80, Tryz.ntmps80
    go_wp2
    go_ret
    exact ⟨rfl, HF.out, Upd.refl _ _⟩
  · by_cases ho : onB s.b.length at_ str.size = true
    · by_cases hn : str.size = 0
      · have E : Box (s.program at_ str.data.toList = (s, 0)) := ⟨by
          unfold FS.program; rw [if_neg hd, hlen, if_neg (by rw [ho]; simp), if_pos (List.eq_nil_of_length_eq_zero (by rw [hlen, hn]))]⟩
        rw [E.out]
        have hd' : s.dead = false := by simpa using hd
        rw [hd'] at c6; clear hd hd'
        have hstr2 : str.toList.isEmpty = true := by rw [ByteArray.toList_eq, List.isEmpty_iff]; exact List.eq_nil_of_length_eq_zero (by rw [hlen, hn])
        have hstr : str.toList = [] := by simpa using hstr2
        have HO := Box.mk ho; clear ho hlen hn
        go_enter Tryz.func80, Tryz.ntmps80
        go_wp2_with fail
        refine (within_any p bb cb s at_ str.size _ HF.out hok ba (by omega)).mono ?_
        rintro e w1 ⟨rfl, rfl⟩
        rw [HO.out]
        go_wp2
        go_ret
        exact ⟨rfl, HF.out, Upd.refl _ _⟩
      · have hon : 0 ≤ at_ ∧ 0 ≤ (str.size : Int) ∧ at_ + str.size ≤ s.b.length := by unfold onB at ho; simpa using ho
        by_cases hp : at_ / 64 = (at_ + str.size - 1) / 64
        · obtain ⟨A, rfl⟩ := Int.eq_ofNat_of_zero_le hon.1
          have E : Box (s.program A str.data.toList = ({ s.step with b := progBytes s.b A str.data.toList s.goes s.keep s.mask }, toldI s.goes)) := ⟨by
            unfold FS.program; rw [if_neg hd, hlen, if_neg (by rw [ho]; simp), if_neg (fun e => hn (by rw [← hlen, e]; rfl)), if_neg (by simpa using hp)]; rfl⟩
          rw [E.out]
          exact prog_loop p bb cb A s str w HF.out hok (by simpa using hd) (by omega) hn hp
        · have E : Box (s.program at_ str.data.toList = (s, 112)) := ⟨by
            unfold FS.program; rw [if_neg hd, hlen, if_neg (by rw [ho]; simp), if_neg (fun e => hn (by rw [← hlen, e]; rfl)), if_pos hp]⟩
          rw [E.out]
          have hd' : s.dead = false := by simpa using hd
          rw [hd'] at c6; clear hd hd'
          have hlb : (s.b.length : Int) ≤ 131072 := by have := hok.len; have := hok.few; omega
          have hstr : (str.toList == []) = false := by rw [ByteArray.toList_eq, beq_eq_false_iff_ne]; intro e; apply hn; have := congrArg List.length e; simpa using this
          have hstr2 : str.toList.isEmpty = false := by simpa using hstr
          have hpg : (at_ / 64 != (at_ + str.size - 1) / 64) = true := by rw [bne_iff_ne]; exact hp
          have HO := Box.mk ho
          have HN := Box.mk hn
          clear ho hlen hn hp
          go_enter Tryz.func80, Tryz.ntmps80
          go_wp2_with fail
          refine (within_any p bb cb s at_ str.size _ HF.out hok ba (by omega)).mono ?_
          rintro e w1 ⟨rfl, rfl⟩
          rw [HO.out]
          have hpos : 1 ≤ (str.size : Int) := by have := HN.out; omega
          go_wp2
          go_ret
          exact ⟨rfl, HF.out, Upd.refl _ _⟩
    · have ho' : onB s.b.length at_ str.size = false := by simpa using ho
      have E : Box (s.program at_ str.data.toList = (s, 111)) := ⟨by unfold FS.program; rw [if_neg hd, hlen, if_pos ho']⟩
      rw [E.out]
      have hd' : s.dead = false := by simpa using hd
      rw [hd'] at c6; clear hd hd'
      have HO := Box.mk ho'; clear ho ho' hlen
      go_enter Tryz.func80, Tryz.ntmps80
      go_wp2_with fail
      refine (within_any p bb cb s at_ str.size _ HF.out hok ba (by omega)).mono ?_
      rintro e w1 ⟨rfl, rfl⟩
      rw [HO.out]
      go_wp2
      go_ret
      exact ⟨rfl, HF.out, Upd.refl _ _⟩
end Go.Proofs.YtjednaendedpdaaGreat
