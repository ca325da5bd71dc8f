/- Manifest: digits read one by one: the program's way, the document's. Regions that draw their order and hold loads, calls that make memory, and new blocks, ahead of a tail of stores: one walk in the order of the text serves every order. The world is a variable throughout: it has grown out of the one in which the region began. Nothing of the program. Memory: what a store does to a block; worlds that differ in named blocks alone. Regions that draw their order and hold calls that change named blocks. Nothing of the program. Rows of the call's own: made, appended to where there is room, as worlds that are known. Rows of the call's own, marked or not: []byte(s), append, string(b). Nothing of the program. -/
import Derived.Test.YtafhncpaoolljaaGreatM01
import Derived.Lib.Bytealg
import Derived.StillTail
import Derived.Laws.Rows
import Derived.Laws.CopyOwn
import Derived.ArgAppend
import Derived.Laws.MakeOwn
import Derived.Laws.IdiomCopy
import Derived.Deep.Upon
import Derived.OwnWalk
import Derived.Laws.IdiomStrings
namespace Go.Proofs.YtafhncpaoolljaaGreat
set_option maxRecDepth 100000
set_option linter.unusedVariables false
open Go Go.RowKit
def digsM : List UInt8 := [48, 49, 50, 51, 52, 53, 54, 55, 56, 57, 97, 98, 99, 100, 101, 102]
theorem digs_index (c : UInt8) : Lib.indexByte digsM c = match valM c with | none => -1 | some n => (n : Int) := by
 have h : ∀ k, k < 256 → Lib.indexByte digsM (UInt8.ofNat k) = match valM (UInt8.ofNat k) with | none => -1 | some n => (n : Int) := by decide
 have := h c.toNat c.toNat_lt
 rwa [UInt8.ofNat_toNat] at this
theorem unhex_snoc : ∀ (s : List UInt8) (a b : UInt8), s.length % 2 = 0 → unhexL (s ++ [a, b]) = match unhexL s, valM a, valM b with
   | some r, some x, some y => some (r ++ [UInt8.ofNat (16 * x + y)]) | _, _, _ => none
 | [], a, b, _ => by
   show unhexL [a, b] = _
   rw [unhexL, unhexL]
   cases valM a <;> cases valM b <;> rfl
 | [_], a, b, h => by simp at h
 | x :: y :: s, a, b, h => by
   show unhexL (x :: y :: (s ++ [a, b])) = _
   rw [unhexL, unhexL, unhex_snoc s a b (by simp at h; omega)]
   cases valM x <;> cases valM y <;> cases unhexL s <;> cases valM a <;> cases valM b <;> rfl
theorem unhex_app : ∀ (s t : List UInt8), s.length % 2 = 0 → unhexL s = none → unhexL (s ++ t) = none
 | [], t, _, h => by rw [unhexL] at h; cases h
 | [_], t, h, _ => by simp at h
 | x :: y :: s, t, hl, h => by
   show unhexL (x :: y :: (s ++ t)) = none
   rw [unhexL] at h ⊢
   cases hx : valM x with
   | none => rfl
   | some a =>
     cases hy : valM y with
     | none => rfl
     | some b =>
       cases hs : unhexL s with
       | some r => simp [hx, hy, hs] at h
       | none => rw [unhex_app s t (by simp at hl; omega) hs]
theorem unhex_odd : ∀ (s : List UInt8), s.length % 2 = 1 → unhexL s = none
 | [], h => by simp at h
 | [_], _ => rfl
 | x :: y :: s, h => by
   rw [unhexL, unhex_odd s (by simp at h; omega)]
   cases valM x <;> cases valM y <;> rfl
open Go Go.RowKit
def Gr (w w' : World) : Prop := Below w.heap.size w w'
theorem Gr.refl (w : World) : Gr w w := Below.refl _ _
theorem Gr.size {w w' : World} (h : Gr w w') : w.heap.size ≤ w'.heap.size := Below.size h
theorem Gr.trans {a b c : World} (h : Gr a b) (k : Gr b c) : Gr a c := Below.trans h (Below.mono k h.size)
theorem Gr.alloc (w : World) (o : Obj) : Gr w (w.alloc o) := (Below.refl _ _).alloc (Nat.le_refl _) o
theorem Gr.block {w w' : World} (h : Gr w w') {b : Nat} {x : Obj} (hb : w.heap[b]? = some x) : w'.heap[b]? = some x :=
 (Below.block h b (Array.getElem?_eq_some_iff.1 hb).1).trans hb
theorem Gr.below {w w' : World} (h : Gr w w') : Below w.heap.size w w' := h
theorem Gr.of {w w' : World} (h : Below w.heap.size w w') : Gr w w' := h
theorem Gr.blt {w : World} {b : Nat} {x : Obj} (hb : w.heap[b]? = some x) : b < w.heap.size := (Array.getElem?_eq_some_iff.1 hb).1
theorem Gr.setRow {w w' : World} (h : Gr w w') {b : Nat} (hb : w.heap.size ≤ b) (cs : Array Value) : Gr w (w'.setRow b cs) := below_setRow h hb cs
structure GrS (S : List Nat) (w w' : World) : Prop where
 os : w'.os = w.os
 tape : w'.tape = w.tape
 output : w'.output = w.output
 size : w.heap.size ≤ w'.heap.size
 block : ∀ k, k < w.heap.size → k ∉ S → w'.heap[k]? = w.heap[k]?
theorem Gr.toS {w w' : World} (h : Gr w w') (S : List Nat) : GrS S w w' := ⟨h.os, h.tape, h.output, Below.size h, fun k hk _ => Below.block h k hk⟩
theorem GrS.toGr {w w' : World} (h : GrS [] w w') : Gr w w' := ⟨h.os, h.tape, h.output, h.size, fun k hk => h.block k hk (fun h => by cases h)⟩
theorem GrS.refl (S : List Nat) (w : World) : GrS S w w := (Gr.refl w).toS S
theorem GrS.trans {S : List Nat} {a b c : World} (h : GrS S a b) (k : GrS S b c) : GrS S a c :=
 ⟨k.os.trans h.os, k.tape.trans h.tape, k.output.trans h.output, Nat.le_trans h.size k.size, fun i hi hn => (k.block i (Nat.lt_of_lt_of_le hi h.size) hn).trans (h.block i hi hn)⟩
theorem GrS.at {S : List Nat} {w w' : World} (h : GrS S w w') {b : Nat} (hn : b ∉ S) {x : Obj} (hb : w.heap[b]? = some x) : w'.heap[b]? = some x :=
 (h.block b (Array.getElem?_eq_some_iff.1 hb).1 hn).trans hb
theorem GrS.setRow {S : List Nat} {w w' : World} (h : GrS S w w') {b : Nat} (hb : w.heap.size ≤ b ∨ b ∈ S) (cs : Array Value) : GrS S w (w'.setRow b cs) :=
 ⟨by rw [setRow_os]; exact h.os, by rw [setRow_tape]; exact h.tape, by rw [setRow_output]; exact h.output, by rw [setRow_size]; exact h.size, fun k hk hn => by
   rw [setRow_other _ _ _ _ (fun e => by
     rcases hb with hb | hb
     · omega
     · exact hn (e ▸ hb))]; exact h.block k hk hn⟩
def GrD (S N : List Nat) (w w' : World) : Prop := ∃ D, (∀ d ∈ D, d ∈ N) ∧ GrS (S ++ D) w w'
theorem GrS.d {S N : List Nat} {w w' : World} (h : GrS S w w') : GrD S N w w' := ⟨[], (fun _ h => by cases h), by rw [List.append_nil]; exact h⟩
theorem GrD.sub {S N N' : List Nat} {w w' : World} (h : GrD S N w w') (hn : ∀ b, b ∈ N → b ∈ N') : GrD S N' w w' := by
 obtain ⟨D, h1, h2⟩ := h
 exact ⟨D, fun d hd => hn d (h1 d hd), h2⟩
theorem GrD.size {S N : List Nat} {w w' : World} (h : GrD S N w w') : w.heap.size ≤ w'.heap.size := h.elim fun _ h => h.2.size
theorem GrD.lt {S N : List Nat} {w w' : World} (h : GrD S N w w') {b : Nat} (hb : b < w.heap.size) : b < w'.heap.size := Nat.lt_of_lt_of_le hb h.size
theorem GrD.at {S N : List Nat} {w w' : World} (h : GrD S N w w') {b : Nat} (hn : b ∉ S) (hn' : b ∉ N) {x : Obj} (hb : w.heap[b]? = some x) : w'.heap[b]? = some x := by
 obtain ⟨D, h1, h2⟩ := h
 exact h2.at (fun h => (List.mem_append.1 h).elim hn (fun h => hn' (h1 _ h))) hb
theorem GrD.trans {S N : List Nat} {a b c : World} (h : GrS S a b) (k : GrD S N b c) (hn : ∀ x ∈ N, a.heap.size ≤ x) : GrS S a c := by
 obtain ⟨D, h1, h2⟩ := k
 exact ⟨h2.os.trans h.os, h2.tape.trans h.tape, h2.output.trans h.output, Nat.le_trans h.size h2.size, fun i hi hs => (h2.block i (Nat.lt_of_lt_of_le hi h.size) (fun hm => (List.mem_append.1 hm).elim hs (fun hm => by have := hn i (h1 i hm); omega))).trans (h.block i hi hs)⟩
inductive Kd where
 | flo
 | cha
 | new (X : Obj)
def Kd.isFlo : Kd → Bool | .flo => true | _ => false
def Kd.isCha : Kd → Bool | .cha => true | _ => false
def Stb (F : World → Prop) : Prop := ∀ w w', Gr w w' → F w → F w'
section
variable {P : Program} {W : World} {S : List Nat} {ops : Array Oper}
def yieldsG (P : Program) (W : World) (S : List Nat) (o : Oper) (a : Act) (v : Value) : Prop := ∀ w, GrS S W w → (execOp a.eval o).run P w = .ok (.value v) w ∨ ((execOp a.eval o).run P w = .ok .skip w ∧ v = undef)
def makesG (P : Program) (W : World) (S : List Nat) (o : Oper) (a : Act) (X : Obj) : Prop :=
 ∀ w, GrS S W w → (execOp a.eval o).run P w = .ok (.value (.pointer (some ⟨w.heap.size, 0, none⟩))) (w.alloc X)
def steps (P : Program) (S : List Nat) (o : Oper) (a : Act) (w : World) (R : Value → World → Prop) : Prop :=
 (∃ f args, (execOp a.eval o).run P w = .ok (.enter f args) w ∧ Calls P f args w (fun e w' => ∃ v, e = .returned v ∧ R v w')) ∨
 (∃ w', (execOp a.eval o).run P w = .ok .skip w' ∧ R undef w') ∨ (∃ v w', (execOp a.eval o).run P w = .ok (.value v) w' ∧ R v w')
theorem steps.mono {o : Oper} {a : Act} {w : World} {R R' : Value → World → Prop} (h : steps P S o a w R) (hr : ∀ v w', R v w' → R' v w') : steps P S o a w R' := by
 rcases h with ⟨f, args, he, hc⟩ | ⟨w', he, h⟩ | ⟨v, w', he, h⟩
 · exact .inl ⟨f, args, he, hc.mono fun _ _ ⟨v, hv, h⟩ => ⟨v, hv, hr _ _ h⟩⟩
 · exact .inr (.inl ⟨w', he, hr _ _ h⟩)
 · exact .inr (.inr ⟨v, w', he, hr _ _ h⟩)
theorem steps.some {o : Oper} {a : Act} {w : World} {R : Value → World → Prop} (h : steps P S o a w R) : ∃ v w', R v w' := by
 rcases h with ⟨f, args, _, hc⟩ | ⟨w', _, h⟩ | ⟨v, w', _, h⟩
 · obtain ⟨_, w', _, ⟨v, _, h⟩, _⟩ := hc []
   exact ⟨v, w', h⟩
 · exact ⟨_, w', h⟩
 · exact ⟨_, w', h⟩
theorem steps.congr {o : Oper} {a a' : Act} {w : World} {R : Value → World → Prop} (he : execOp a'.eval o = execOp a.eval o) (h : steps P S o a w R) : steps P S o a' w R := by
 unfold steps at h ⊢; rw [he]; exact h
theorem steps.wp {o : Oper} {a : Act} {w : World} {R : Value → World → Prop} {K : Act → World → Prop} {Q : Exit → Act → World → Prop} (h : steps P S o a w R) (hk : ∀ v w', R v w' → K (a.put o.dst v) w') : o.wp P a w K Q := by
 unfold Oper.wp
 rcases h with ⟨f, args, he, hc⟩ | ⟨w', he, h⟩ | ⟨v, w', he, h⟩
 · rw [he]; exact hc.mono fun e w' ⟨v, hv, h⟩ => by subst hv; exact hk _ _ h
 · rw [he]; exact hk _ _ h
 · rw [he]; exact hk _ _ h
def wpG (P : Program) (W : World) (S : List Nat) (T : (World → Prop) → List Nat → Act → Prop) : List (Oper × Kd) → (World → Prop) → List Nat → Act → Prop
 | [], F, N, a => T F N a
 | (o, .flo) :: L, F, N, a => ∃ v, yieldsG P W S o a v ∧ wpG P W S T L F N (a.put o.dst v)
 | (o, .new X) :: L, F, N, a => makesG P W S o a X ∧ ∀ b, W.heap.size ≤ b → b ∉ N → wpG P W S T L (fun w => F w ∧ w.heap[b]? = some X) (b :: N) (a.put o.dst (.pointer (some ⟨b, 0, none⟩)))
 | (o, .cha) :: L, F, N, a => ∀ w, GrS S W w → F w → steps P S o a w (fun v w' => GrD S N w w' ∧ ∃ F' N', Stb F' ∧ F' w' ∧ (∀ b ∈ N', w.heap.size ≤ b ∧ b < w'.heap.size) ∧ wpG P W S T L F' (N' ++ N) (a.put o.dst v))
theorem Stb.tt : Stb (fun _ => True) := fun _ _ _ _ => trivial
theorem Stb.row (b : Nat) (X : Obj) : Stb (fun w => True ∧ w.heap[b]? = some X) := fun _ _ hg h => ⟨trivial, hg.block h.2⟩
theorem Stb.new {F : World → Prop} (h : Stb F) (b : Nat) (X : Obj) : Stb (fun w => F w ∧ w.heap[b]? = some X) :=
 fun w w' hg ⟨h1, h2⟩ => ⟨h w w' hg h1, hg.block h2⟩
theorem wpG_sub {P : Program} {W : World} {S : List Nat} {T : (World → Prop) → List Nat → Act → Prop} (hT : ∀ F N N' a, (∀ b, b ∈ N → b ∈ N') → T F N a → T F N' a) : ∀ (L : List (Oper × Kd)) (F : World → Prop) (N N' : List Nat) (a : Act), (∀ b, b ∈ N → b ∈ N') → wpG P W S T L F N a → wpG P W S T L F N' a
 | [], F, N, N', a, h, hg => hT F N N' a h hg
 | (o, .flo) :: L, F, N, N', a, h, ⟨v, hv, hg⟩ => ⟨v, hv, wpG_sub hT L F N N' _ h hg⟩
 | (o, .new X) :: L, F, N, N', a, h, ⟨hm, hg⟩ => ⟨hm, fun b hb hn => wpG_sub hT L _ (b :: N) (b :: N') _ (fun c hc => by
     rcases List.mem_cons.1 hc with h' | h'
     · exact h' ▸ List.mem_cons_self
     · exact List.mem_cons_of_mem _ (h c h')) (hg b hb (fun h' => hn (h b h')))⟩
 | (o, .cha) :: L, F, N, N', a, h, hg => fun w hw hF => by
   refine (hg w hw hF).mono fun v w' ⟨hgr, F', M, hs, hF', hl, h'⟩ => ⟨hgr.sub h, F', M, hs, hF', hl, wpG_sub hT L F' (M ++ N) (M ++ N') _ (fun b hb => ?_) h'⟩
   rcases List.mem_append.1 hb with h' | h'
   · exact List.mem_append_left _ h'
   · exact List.mem_append_right _ (h b h')
theorem and_swap3 (F : World → Prop) (p q : World → Prop) : (fun w => (F w ∧ p w) ∧ q w) = (fun w => (F w ∧ q w) ∧ p w) := by
 funext w; exact propext ⟨fun ⟨⟨a, b⟩, c⟩ => ⟨⟨a, c⟩, b⟩, fun ⟨⟨a, b⟩, c⟩ => ⟨⟨a, c⟩, b⟩⟩
structure Apt (ops : Array Oper) (j i : Oper) : Prop where
 ap : j.apart ops i = true
 sj : ∀ cs b, j.op ≠ .select cs b
 si : ∀ cs b, i.op ≠ .select cs b
theorem Apt.exec_i {i j : Oper} (h : Apt ops j i) (a : Act) (u : Value) : execOp (a.put j.dst u).eval i = execOp a.eval i :=
 execOp_put i h.si a j.dst u (Oper.apart_spec h.ap).1
theorem Apt.exec_j {i j : Oper} (h : Apt ops j i) (a : Act) (u : Value) : execOp (a.put i.dst u).eval j = execOp a.eval j :=
 execOp_put j h.sj a i.dst u (Oper.apart_spec h.ap).2.2
theorem Apt.comm {i j : Oper} (h : Apt ops j i) (a : Act) (u v : Value) : (a.put j.dst u).put i.dst v = (a.put i.dst v).put j.dst u :=
 Act.put_comm a u v (Oper.apart_spec h.ap).2.1
variable {T : (World → Prop) → List Nat → Act → Prop} {oi : Oper}
structure Known (W : World) (S : List Nat) (F : World → Prop) (N : List Nat) (w : World) : Prop where
 st : Stb F
 gr : GrS S W w
 fa : F w
 lt : ∀ b ∈ N, b < w.heap.size
 ge : ∀ b ∈ N, W.heap.size ≤ b
theorem Known.new {F : World → Prop} {N : List Nat} {w : World} (h : Known W S F N w) (X : Obj) : Known W S (fun x => F x ∧ x.heap[w.heap.size]? = some X) (w.heap.size :: N) (w.alloc X) :=
 ⟨h.st.new _ X, h.gr.trans ((Gr.alloc _ _).toS S), ⟨h.st _ _ (Gr.alloc _ _) h.fa, heap_alloc_new _ _⟩, fun b hb => by
   rcases List.mem_cons.1 hb with h' | h'
   · subst h'; simp
   · have := h.lt b h'; simp; omega, fun b hb => by
   rcases List.mem_cons.1 hb with h' | h'
   · subst h'; exact h.gr.size
   · exact h.ge b h'⟩
theorem Known.fresh {F : World → Prop} {N : List Nat} {w : World} (h : Known W S F N w) : w.heap.size ∉ N := fun hb => Nat.lt_irrefl _ (h.lt _ hb)
theorem Known.call {F F' : World → Prop} {N M : List Nat} {w w' : World} (h : Known W S F N w) (hg : GrD S N w w') (hs : Stb F') (hF : F' w') (hl : ∀ b ∈ M, w.heap.size ≤ b ∧ b < w'.heap.size) : Known W S F' (M ++ N) w' :=
 ⟨hs, hg.trans h.gr h.ge, hF, fun b hb => by
   rcases List.mem_append.1 hb with h' | h'
   · exact (hl b h').2
   · exact hg.lt (h.lt b h'), fun b hb => by
   rcases List.mem_append.1 hb with h' | h'
   · exact Nat.le_trans h.gr.size (hl b h').1
   · exact h.ge b h'⟩
theorem ex_flo {B : List (Oper × Kd)} : ∀ (A : List (Oper × Kd)), (∀ p ∈ A, Apt ops p.1 oi) → ∀ (F : World → Prop) (N : List Nat) (a : Act) (w : World), Known W S F N w → wpG P W S T (A ++ (oi, .flo) :: B) F N a → ∃ v, yieldsG P W S oi a v
 | [], _, _, _, _, _, _, ⟨v, h, _⟩ => ⟨v, h⟩
 | (oj, .flo) :: A, hA, F, N, a, w, hk, ⟨u, _, h⟩ => by
   obtain ⟨v, hv⟩ := ex_flo A (fun p hp => hA p (List.mem_cons_of_mem _ hp)) F N _ w hk h
   exact ⟨v, fun x hx => by have := hv x hx; rwa [(hA _ List.mem_cons_self).exec_i] at this⟩
 | (oj, .new X) :: A, hA, F, N, a, w, hk, ⟨_, h⟩ => by
   obtain ⟨v, hv⟩ := ex_flo A (fun p hp => hA p (List.mem_cons_of_mem _ hp)) _ _ _ (w.alloc X) (hk.new X) (h w.heap.size hk.gr.size hk.fresh)
   exact ⟨v, fun x hx => by have := hv x hx; rwa [(hA _ List.mem_cons_self).exec_i] at this⟩
 | (oj, .cha) :: A, hA, F, N, a, w, hk, h => by
   obtain ⟨u, w', hg, F', M, hs', hF', hl, h'⟩ := (h w hk.gr hk.fa).some
   obtain ⟨v, hv⟩ := ex_flo A (fun p hp => hA p (List.mem_cons_of_mem _ hp)) F' _ _ w' (hk.call hg hs' hF' hl) h'
   exact ⟨v, fun x hx => by have := hv x hx; rwa [(hA _ List.mem_cons_self).exec_i] at this⟩
theorem rem_flo {v : Value} {B : List (Oper × Kd)} : ∀ (A : List (Oper × Kd)), (∀ p ∈ A, Apt ops p.1 oi) → ∀ (F : World → Prop) (N : List Nat) (a : Act), yieldsG P W S oi a v → wpG P W S T (A ++ (oi, .flo) :: B) F N a → wpG P W S T (A ++ B) F N (a.put oi.dst v)
 | [], _, _, _, a, hv, ⟨v', h', hg⟩ => by
   have e : v = v' := by
     rcases hv W (GrS.refl _ _) with h1 | ⟨h1, e1⟩ <;> rcases h' W (GrS.refl _ _) with h2 | ⟨h2, e2⟩ <;> rw [h1] at h2
     · injection h2 with h3; injection h3
     · injection h2 with h3; cases h3
     · injection h2 with h3; cases h3
     · rw [e1, e2]
   subst e
   exact hg
 | (oj, .flo) :: A, hA, F, N, a, hv, ⟨u, hu, h⟩ => by
   have hj := hA _ List.mem_cons_self
   refine ⟨u, fun x hx => by rw [hj.exec_j]; exact hu x hx, ?_⟩
   rw [← hj.comm]
   exact rem_flo A (fun p hp => hA p (List.mem_cons_of_mem _ hp)) F N _ (fun x hx => by rw [hj.exec_i]; exact hv x hx) h
 | (oj, .new X) :: A, hA, F, N, a, hv, ⟨hm, h⟩ => by
   have hj := hA _ List.mem_cons_self
   refine ⟨fun x hx => by rw [hj.exec_j]; exact hm x hx, fun b hb hn => ?_⟩
   rw [← hj.comm]
   exact rem_flo A (fun p hp => hA p (List.mem_cons_of_mem _ hp)) _ _ _ (fun x hx => by rw [hj.exec_i]; exact hv x hx) (h b hb hn)
 | (oj, .cha) :: A, hA, F, N, a, hv, h => by
   have hj := hA _ List.mem_cons_self
   intro w hw hF
   refine ((h w hw hF).congr (hj.exec_j _ _)).mono fun u w' ⟨hg, F', M, hs', hF', hl, h'⟩ => ⟨hg, F', M, hs', hF', hl, ?_⟩
   rw [← hj.comm]
   exact rem_flo A (fun p hp => hA p (List.mem_cons_of_mem _ hp)) F' _ _ (fun x hx => by rw [hj.exec_i]; exact hv x hx) h'
theorem ex_new {X : Obj} {B : List (Oper × Kd)} : ∀ (A : List (Oper × Kd)), (∀ p ∈ A, Apt ops p.1 oi) → ∀ (F : World → Prop) (N : List Nat) (a : Act) (w : World), Known W S F N w → wpG P W S T (A ++ (oi, .new X) :: B) F N a → makesG P W S oi a X
 | [], _, _, _, _, _, _, ⟨h, _⟩ => h
 | (oj, .flo) :: A, hA, F, N, a, w, hk, ⟨u, _, h⟩ => by
   have hv := ex_new A (fun p hp => hA p (List.mem_cons_of_mem _ hp)) F N _ w hk h
   exact fun x hx => by have := hv x hx; rwa [(hA _ List.mem_cons_self).exec_i] at this
 | (oj, .new Y) :: A, hA, F, N, a, w, hk, ⟨_, h⟩ => by
   have hv := ex_new A (fun p hp => hA p (List.mem_cons_of_mem _ hp)) _ _ _ (w.alloc Y) (hk.new Y) (h w.heap.size hk.gr.size hk.fresh)
   exact fun x hx => by have := hv x hx; rwa [(hA _ List.mem_cons_self).exec_i] at this
 | (oj, .cha) :: A, hA, F, N, a, w, hk, h => by
   obtain ⟨u, w', hg, F', M, hs', hF', hl, h'⟩ := (h w hk.gr hk.fa).some
   have hv := ex_new A (fun p hp => hA p (List.mem_cons_of_mem _ hp)) F' _ _ w' (hk.call hg hs' hF' hl) h'
   exact fun x hx => by have := hv x hx; rwa [(hA _ List.mem_cons_self).exec_i] at this
theorem rem_new (hT : ∀ F N N' a, (∀ b, b ∈ N → b ∈ N') → T F N a → T F N' a) (hS : ∀ k ∈ S, k < W.heap.size) {X : Obj} {b : Nat} (hb : W.heap.size ≤ b) {B : List (Oper × Kd)} : ∀ (A : List (Oper × Kd)), (∀ p ∈ A, Apt ops p.1 oi) → ∀ (F : World → Prop) (N : List Nat) (a : Act), b ∉ N → wpG P W S T (A ++ (oi, .new X) :: B) F N a →
   wpG P W S T (A ++ B) (fun w => F w ∧ w.heap[b]? = some X) (b :: N) (a.put oi.dst (.pointer (some ⟨b, 0, none⟩)))
 | [], _, _, _, a, hn, ⟨_, h⟩ => h b hb hn
 | (oj, .flo) :: A, hA, F, N, a, hn, ⟨u, hu, h⟩ => by
   have hj := hA _ List.mem_cons_self
   refine ⟨u, fun x hx => by rw [hj.exec_j]; exact hu x hx, ?_⟩
   rw [← hj.comm]
   exact rem_new hT hS hb A (fun p hp => hA p (List.mem_cons_of_mem _ hp)) F N _ hn h
 | (oj, .new Y) :: A, hA, F, N, a, hn, ⟨hm, h⟩ => by
   have hj := hA _ List.mem_cons_self
   refine ⟨fun x hx => by rw [hj.exec_j]; exact hm x hx, fun b' hb' hn' => ?_⟩
   rw [← hj.comm, and_swap3]
   have hne : b' ≠ b := fun h => hn' (h ▸ List.mem_cons_self)
   refine wpG_sub hT _ _ (b :: b' :: N) (b' :: b :: N) _ (fun c hc => ?_) (rem_new hT hS hb A (fun p hp => hA p (List.mem_cons_of_mem _ hp)) _ (b' :: N) _ (fun h => ?_) (h b' hb' (fun h => hn' (List.mem_cons_of_mem _ h))))
   · simp only [List.mem_cons] at hc ⊢; rcases hc with h | h | h <;> simp [h]
   · rcases List.mem_cons.1 h with h' | h'
     · exact hne h'.symm
     · exact hn h'
 | (oj, .cha) :: A, hA, F, N, a, hn, h => by
   have hj := hA _ List.mem_cons_self
   intro w hw hF
   refine ((h w hw hF.1).congr (hj.exec_j _ _)).mono fun u w' ⟨hg, F', M, hs', hF', hl, h'⟩ =>
     ⟨hg.sub (fun _ h => List.mem_cons_of_mem _ h), fun x => F' x ∧ x.heap[b]? = some X, M, hs'.new b X, ⟨hF', hg.at (fun h => Nat.lt_irrefl _ (Nat.lt_of_lt_of_le (hS b h) hb)) hn hF.2⟩, hl, ?_⟩
   rw [← hj.comm]
   have hlt := Gr.blt hF.2
   refine wpG_sub hT _ _ (b :: (M ++ N)) (M ++ b :: N) _ (fun c hc => ?_) (rem_new hT hS hb A (fun p hp => hA p (List.mem_cons_of_mem _ hp)) F' (M ++ N) _ (fun h => ?_) h')
   · simp only [List.mem_cons, List.mem_append] at hc ⊢; rcases hc with h | h | h <;> simp [h]
   · rcases List.mem_append.1 h with h' | h'
     · have := hl b h'; omega
     · exact hn h'
theorem rem_cha {B : List (Oper × Kd)} : ∀ (A : List (Oper × Kd)), (∀ p ∈ A, Apt ops p.1 oi ∧ p.2.isFlo = true) → ∀ (F : World → Prop) (N : List Nat) (a : Act), wpG P W S T (A ++ (oi, .cha) :: B) F N a →
   ∀ w, GrS S W w → F w → steps P S oi a w (fun v w' => GrD S N w w' ∧ ∃ F' M, Stb F' ∧ F' w' ∧ (∀ b ∈ M, w.heap.size ≤ b ∧ b < w'.heap.size) ∧ wpG P W S T (A ++ B) F' (M ++ N) (a.put oi.dst v))
 | [], _, _, _, _, h, w, hw, hF => h w hw hF
 | (oj, .flo) :: A, hA, F, N, a, ⟨u, hu, h⟩, w, hw, hF => by
   have hj := (hA _ List.mem_cons_self).1
   refine ((rem_cha A (fun p hp => hA p (List.mem_cons_of_mem _ hp)) F N _ h w hw hF).congr (hj.exec_i a u).symm).mono fun v w' ⟨hg, F', M, hs', hF', hl, h'⟩ => ⟨hg, F', M, hs', hF', hl, u, fun x hx => by rw [hj.exec_j]; exact hu x hx, ?_⟩
   rw [← hj.comm]
   exact h'
 | (oj, .new X) :: A, hA, _, _, _, _, _, _, _ => by have := (hA _ List.mem_cons_self).2; cases this
 | (oj, .cha) :: A, hA, _, _, _, _, _, _, _ => by have := (hA _ List.mem_cons_self).2; cases this
def waits (ops : Array Oper) : Nat → Nat → Nat → Bool
 | 0, _, _ => false
 | f + 1, i, j => ((((ops[i]?).map (·.after)).getD #[]).any fun e => Region.binds .any e && e.on == j) || (((ops[i]?).map (·.after)).getD #[]).any fun e => Region.binds .any e && waits ops f e.on j
theorem waits_listed {listed : Array Bool} (hc : ∀ j oj, ops[j]? = some oj → listed.getD j false = true → ∀ e ∈ oj.after, Region.binds .any e = true → listed.getD e.on false = true) {j : Nat} :
   ∀ (f i : Nat) (oi : Oper), ops[i]? = some oi → (∀ e ∈ oi.after, Region.binds .any e = true → listed.getD e.on false = true) → waits ops f i j = true → listed.getD j false = true
 | 0, _, _, _, _, h => by cases h
 | f + 1, i, oi, hi, ha, h => by
   unfold waits at h
   rw [hi] at h
   rcases (Bool.or_eq_true _ _ ▸ h) with h | h
   · obtain ⟨e, he, hb⟩ := Array.any_eq_true'.1 h
     simp only [Bool.and_eq_true, beq_iff_eq] at hb
     rw [← hb.2]; exact ha e he hb.1
   · obtain ⟨e, he, hb⟩ := Array.any_eq_true'.1 h
     simp only [Bool.and_eq_true] at hb
     have hl := ha e he hb.1
     have h' := hb.2
     cases hq : ops[e.on]? with
     | none => cases f <;> simp [waits, hq] at h'
     | some oq => exact waits_listed hc f e.on oq hq (hc _ _ hq hl) h'
def canonL (n g : Nat) : Array Bool := Array.replicate n true ++ Array.replicate g false
def tailB (ops : Array Oper) (n : Nat) : Bool := (List.range ops.size).all fun t => decide (t < n) || (List.range n).all fun i => waits ops (t + 1) t i
def mixB (ops : Array Oper) (n : Nat) (kd : Nat → Kd) : Bool :=
 Region.noSelect ops && decide (n < ops.size) && tailB ops n &&
 (List.range n).all fun i => match ops[i]? with
   | none => false
   | some oi => oi.guard.isNone && oi.after.all (fun e => !Region.binds .any e || decide (e.on < i)) &&
     (List.range i).all fun j => match ops[j]? with
       | none => false
       | some oj => (oj.apart ops oi || waits ops (i + 1) i j) && (!(kd i).isCha || (kd j).isFlo || waits ops (i + 1) i j)
end
section
variable {P : Program} {ops : Array Oper} {W : World} {S : List Nat} {Q : Exit → Act → World → Prop} {T : (World → Prop) → List Nat → Act → Prop}
theorem getD_tf {l : Array Bool} {i : Nat} (h : ¬ l.getD i true = false) (hi : i < l.size) : l.getD i false = true := by
 simp [hi] at h ⊢; exact h
theorem anyG (hS : ∀ k ∈ S, k < W.heap.size) {n g : Nat} {kd : Nat → Kd} (hB : mixB ops n kd = true) (hg : n + g = ops.size) (pr : Nat → Oper × Kd) (hpr : ∀ i o, ops[i]? = some o → pr i = (o, kd i))
   (hTN : ∀ F N N' a, (∀ b, b ∈ N → b ∈ N') → T F N a → T F N' a)
   (hT : ∀ F N a w, T F N a → GrS S W w → F w → wpAny P .any ops Q g (canonL n g) a w) :
   ∀ (m : Nat) (L : List Nat) (listed : Array Bool) (a : Act) (w : World) (F : World → Prop) (N : List Nat), L.length = m → HeadInv .any ops n listed → (∀ i, i ∈ L ↔ i < n ∧ listed.getD i true = false) → L.Pairwise (· < ·) →
     Known W S F N w → wpG P W S T (L.map pr) F N a → wpAny P .any ops Q (m + g) listed a w := by
 simp only [mixB, Bool.and_eq_true, decide_eq_true_eq] at hB
 obtain ⟨⟨⟨hsel, hn⟩, htail⟩, hall⟩ := hB
 have hget : ∀ i, i < n → ∃ oi, ops[i]? = some oi ∧ oi.guard = none ∧ (∀ e ∈ oi.after, Region.binds .any e = true → e.on < i) ∧
     ∀ j, j < i → ∀ oj, ops[j]? = some oj → (oj.apart ops oi || waits ops (i + 1) i j) = true ∧ (!(kd i).isCha || (kd j).isFlo || waits ops (i + 1) i j) = true := by
   intro i hi
   have h1 := List.all_eq_true.1 hall i (List.mem_range.2 hi)
   cases ho : ops[i]? with
   | none => simp [ho] at h1
   | some oi =>
     simp only [ho, Bool.and_eq_true] at h1
     obtain ⟨⟨h2, h3⟩, h4⟩ := h1
     refine ⟨oi, rfl, by simpa using h2, fun e he hb => ?_, fun j hj oj hoj => ?_⟩
     · have := Array.all_eq_true_iff_forall_mem.1 h3 e he
       simp only [hb, Bool.not_true, Bool.false_or, decide_eq_true_eq] at this
       exact this
     · have h5 := List.all_eq_true.1 h4 j (List.mem_range.2 hj)
       simp only [hoj, Bool.and_eq_true] at h5
       exact h5
 intro m
 induction m with
 | zero =>
   intro L listed a w F N hm inv hL _ hkn h
   have hnil : L = [] := List.length_eq_zero_iff.1 hm
   subst hnil
   rw [Nat.zero_add]
   have : listed = canonL n (ops.size - n) := by
     refine Array.ext (by rw [inv.size]; simp [canonL]; omega) fun i h1 h2 => ?_
     rw [inv.size] at h1
     by_cases hi : i < n
     · have h3 : ¬ listed.getD i true = false := fun h => by have := (hL i).2 ⟨hi, h⟩; cases this
       have h4 := getD_tf h3 (by rw [inv.size]; exact h1)
       simp [inv.size, h1] at h4
       simp [canonL, hi, h4]
     · have h4 := inv.tail i (by omega) h1
       simp [inv.size, h1] at h4
       simp [canonL, Array.getElem_append, h4]; omega
   rw [this, show ops.size - n = g by omega]
   exact hT F N a w h hkn.gr hkn.fa
 | succ m ih =>
   intro L listed a w F N hm inv hL hp hkn h
   have hready : ∃ i0, i0 ∈ Region.ready .any ops listed ∧ i0 ∈ L := by
     cases L with
     | nil => simp at hm
     | cons i0 L =>
       have h0 := (hL i0).1 List.mem_cons_self
       obtain ⟨oi, ho, _, ha, _⟩ := hget i0 h0.1
       refine ⟨i0, mem_ready.2 ⟨h0.2, oi, ho, fun e he hb => ?_⟩, List.mem_cons_self⟩
       have hlt := ha e he hb
       refine getD_tf (fun hf => ?_) (by rw [inv.size]; omega)
       have hmem := (hL e.on).2 ⟨by omega, hf⟩
       rcases List.mem_cons.1 hmem with h' | h'
       · omega
       · have := (List.pairwise_cons.1 hp).1 _ h'; omega
   obtain ⟨i0, hr0, hm0⟩ := hready
   rw [show m + 1 + g = (m + g) + 1 by omega]
   refine ⟨fun h => (by rw [h] at hr0; cases hr0), fun i hi => ?_⟩
   have hin : i < n := by
     rcases Nat.lt_or_ge i n with h' | h'
     · exact h'
     · obtain ⟨_, ot, hot, hdt⟩ := mem_ready.1 hi
       have h1 := List.all_eq_true.1 htail i (List.mem_range.2 (Array.getElem?_eq_some_iff.1 hot).1)
       simp only [Bool.or_eq_true, decide_eq_true_eq] at h1
       have h2 := List.all_eq_true.1 (h1.resolve_left (by omega)) i0 (List.mem_range.2 ((hL i0).1 hm0).1)
       have h3 := waits_listed inv.closed (i + 1) i ot hot hdt h2
       rw [getD_both ((hL i0).1 hm0).2] at h3
       cases h3
   obtain ⟨hiun, oi', hoi', hdone⟩ := mem_ready.1 hi
   obtain ⟨oi, hoi, hgu, _, hrel⟩ := hget i hin
   obtain rfl : oi' = oi := Option.some.inj (hoi'.symm.trans hoi)
   have hiL : i ∈ L := (hL i).2 ⟨hin, hiun⟩
   obtain ⟨A, B, rfl⟩ := List.append_of_mem hiL
   have hpair := List.pairwise_append.1 hp
   have hAp : ∀ p ∈ A.map pr, Apt ops p.1 oi' ∧ ((kd i).isCha = true → p.2.isFlo = true) := by
     intro p hpm
     obtain ⟨j, hj, rfl⟩ := List.mem_map.1 hpm
     have hji : j < i := hpair.2.2 j hj i List.mem_cons_self
     have hjL := (hL j).1 (List.mem_append_left _ hj)
     obtain ⟨oj, hoj, _⟩ := hget j hjL.1
     have hno : waits ops (i + 1) i j = false := by
       cases hq : waits ops (i + 1) i j with
       | false => rfl
       | true =>
         have := waits_listed inv.closed (i + 1) i oi' hoi hdone hq
         rw [getD_both hjL.2] at this
         cases this
     have h5 := hrel j hji oj hoj
     rw [hno, Bool.or_false, Bool.or_false] at h5
     rw [hpr j oj hoj]
     refine ⟨⟨h5.1, fun cs b => Region.noSelect_spec hsel j oj cs b hoj, fun cs b => Region.noSelect_spec hsel i oi' cs b hoi⟩, fun hc => ?_⟩
     have := h5.2
     rw [hc] at this
     simpa using this
   have hL' : ∀ k, k ∈ A ++ B ↔ k < n ∧ (listed.setIfInBounds i true).getD k true = false := by
     intro k
     by_cases hki : k = i
     · subst hki
       have hlt : k < listed.size := by rw [inv.size]; omega
       have hnA : k ∉ A := fun hk => by have := hpair.2.2 k hk k List.mem_cons_self; omega
       have hnB : k ∉ B := fun hk => by have := (List.pairwise_cons.1 hpair.2.1).1 k hk; omega
       simp [hnA, hnB, hlt]
     · rw [getD_set_ne true (Ne.symm hki), ← hL k]
       simp [hki]
   have hp' : (A ++ B).Pairwise (· < ·) := List.pairwise_append.2 ⟨hpair.1, (List.pairwise_cons.1 hpair.2.1).2, fun x hx y hy => hpair.2.2 x hx y (List.mem_cons_of_mem _ hy)⟩
   have hm' : (A ++ B).length = m := by simp only [List.length_append, List.length_cons] at hm ⊢; omega
   have inv' := inv.set hi hin
   have go : ∀ (a' : Act) (w' : World) (F' : World → Prop) (N' : List Nat), Known W S F' N' w' → wpG P W S T (A.map pr ++ B.map pr) F' N' a' → wpAny P .any ops Q (m + g) (listed.setIfInBounds i true) a' w' :=
     fun a' w' F' N' h1 h4 => ih (A ++ B) _ a' w' F' N' hm' inv' hL' hp' h1 (by rw [List.map_append]; exact h4)
   rw [List.map_append, List.map_cons, hpr i oi' hoi] at h
   unfold wpOp
   simp only [hoi]
   rw [if_pos (by simp [Region.wanted, hgu])]
   refine .inl ?_
   cases hk : kd i with
   | flo =>
     rw [hk] at h
     obtain ⟨v, hv⟩ := ex_flo (A.map pr) (fun p hp => (hAp p hp).1) F N a w hkn h
     have h2 := rem_flo (A.map pr) (fun p hp => (hAp p hp).1) F N a hv h
     unfold Oper.wp
     rcases hv w hkn.gr with he | ⟨he, rfl⟩
     · rw [he]; exact go _ w F N hkn h2
     · rw [he]; exact go _ w F N hkn h2
   | new X =>
     rw [hk] at h
     have hv := ex_new (A.map pr) (fun p hp => (hAp p hp).1) F N a w hkn h
     have h2 := rem_new hTN hS hkn.gr.size (A.map pr) (fun p hp => (hAp p hp).1) F N a hkn.fresh h
     unfold Oper.wp
     rw [hv w hkn.gr]
     exact go _ (w.alloc X) _ _ (hkn.new X) h2
   | cha =>
     rw [hk] at h hAp
     exact (rem_cha (A.map pr) (fun p hp => ⟨(hAp p hp).1, (hAp p hp).2 rfl⟩) F N a h w hkn.gr hkn.fa).wp fun v w' ⟨hgr, F', M, hs', hF', hl, h'⟩ => go _ w' F' _ (hkn.call hgr hs' hF' hl) h'
theorem region_of_tail {id : Nat} {a : Act} {w : World} {F0 : World → Prop} (hF0s : Stb F0) (hF0 : F0 w.drew) (hS : ∀ k ∈ S, k < w.heap.size) {l : List Oper} {T : (World → Prop) → Act → Prop} (n : Nat) (ks : List Kd) (hm : P.follows .mixedOrders = true) (hB : mixB l.toArray n (fun i => ks.getD i .flo) = true) (hk : ks.length = n)
   (hT : ∀ F a w', T F a → GrS S w.drew w' → F w' → wpAny P .any l.toArray Q (l.length - n) (canonL n (l.length - n)) a w')
   (h : wpG P w.drew S (fun F _ a' => T F a') ((l.take n).zip ks) F0 [] a) : (Code.region id l.toArray true).wp P Q a w := by
 have hn : n < l.length := by
   simp only [mixB, Bool.and_eq_true, decide_eq_true_eq] at hB
   simpa using hB.1.1.2
 refine wp_region_any hm ?_
 have inv0 : HeadInv .any l.toArray n (Array.replicate l.toArray.size false) :=
   ⟨by simp, fun j oj _ hl => (by rw [getD_replicate_false] at hl; cases hl), fun t _ ht => getD_in (by simpa using ht) (getD_replicate_false _ _)⟩
 have hzip : (l.take n).zip ks = (List.range n).map (fun i => (l.getD i default, ks.getD i .flo)) := by
   refine List.ext_getElem (by simp [hk]; omega) fun i h1 h2 => ?_
   have hi : i < n := by simpa using h2
   simp [List.getD, List.getElem?_eq_getElem (show i < l.length by omega), List.getElem?_eq_getElem (show i < ks.length by omega)]
 rw [hzip] at h
 have := anyG (P := P) (Q := Q) (W := w.drew) (S := S) hS (g := l.length - n) hB (by simp; omega) (fun i => (l.getD i default, ks.getD i .flo))
   (fun i o ho => by simp only [List.getElem?_toArray] at ho; simp [List.getD, ho])
   (fun F N N' a' _ h => h)
   (fun F N a' w' hT' hw hF => hT F a' w' hT' hw hF)
   n (List.range n) (Array.replicate l.toArray.size false) a w.drew F0 [] (by simp) inv0
   (fun i => by
     rw [List.mem_range]
     exact ⟨fun hi => ⟨hi, getD_in (by simp; omega) (getD_replicate_false _ _)⟩, fun h => h.1⟩)
   List.pairwise_lt_range ⟨hF0s, GrS.refl _ _, hF0, (fun b hb => by cases hb), fun b hb => by cases hb⟩ h
 rw [show n + (l.length - n) = l.toArray.size by simp; omega] at this
 exact this
theorem wp_region_mix {id : Nat} {a : Act} {w : World} {l : List Oper} (n : Nat) (ks : List Kd) (hm : P.follows .mixedOrders = true) (hB : (mixB l.toArray n (fun i => ks.getD i .flo) && Region.seqB .any l.toArray (l.length - n) n (canonL n (l.length - n))) = true) (hk : ks.length = n)
   (h : wpG P w.drew [] (fun F _ a' => ∀ w', Gr w.drew w' → F w' → wpList P l.toArray Q (l.drop n) a' w') ((l.take n).zip ks) (fun _ => True) [] a) : (Code.region id l.toArray true).wp P Q a w := by
 rw [Bool.and_eq_true] at hB
 refine region_of_tail (S := []) (F0 := fun _ => True) Stb.tt trivial (fun _ h => by cases h) (T := fun F a' => ∀ w', Gr w.drew w' → F w' → wpList P l.toArray Q (l.drop n) a' w') n ks hm hB.1 hk (fun F a' w' hT hw hF => ?_) h
 have hdl : (l.drop n).length = l.length - n := by simp
 have := wpAny_of_seq (md := .any) (Q' := Q) (l.drop n) n (canonL n (l.length - n)) a' w' (fun j => by simp [List.getElem?_drop]) (by rw [hdl]; exact hB.2) (hT w' hw.toGr hF)
 rwa [hdl] at this
theorem wp_region_mixS {id : Nat} {a : Act} {w : World} {l : List Oper} (S : List Nat) (F0 : World → Prop) (hF0s : Stb F0) (hF0 : F0 w.drew) (hS : ∀ k ∈ S, k < w.heap.size) (n : Nat) (ks : List Kd) (hm : P.follows .mixedOrders = true) (hB : (mixB l.toArray n (fun i => ks.getD i .flo) && Region.seqB .any l.toArray (l.length - n) n (canonL n (l.length - n))) = true) (hk : ks.length = n)
   (h : wpG P w.drew S (fun F _ a' => ∀ w', GrS S w.drew w' → F w' → wpList P l.toArray Q (l.drop n) a' w') ((l.take n).zip ks) F0 [] a) : (Code.region id l.toArray true).wp P Q a w := by
 rw [Bool.and_eq_true] at hB
 refine region_of_tail (S := S) (F0 := F0) hF0s hF0 hS (T := fun F a' => ∀ w', GrS S w.drew w' → F w' → wpList P l.toArray Q (l.drop n) a' w') n ks hm hB.1 hk (fun F a' w' hT hw hF => ?_) h
 have hdl : (l.drop n).length = l.length - n := by simp
 have := wpAny_of_seq (md := .any) (Q' := Q) (l.drop n) n (canonL n (l.length - n)) a' w' (fun j => by simp [List.getElem?_drop]) (by rw [hdl]; exact hB.2) (hT w' hw hF)
 rwa [hdl] at this
end
section
variable {P : Program} {W : World} {Q : Exit → Act → World → Prop} {T : (World → Prop) → List Nat → Act → Prop}
theorem listG {ops : Array Oper} {rest : List Oper} (hT : ∀ F N a w, T F N a → Gr W w → F w → wpList P ops Q rest a w) : ∀ (L : List (Oper × Kd)), (∀ p ∈ L, p.1.guard = none) → ∀ (F : World → Prop) (N : List Nat) (a : Act) (w : World),
   Known W [] F N w → wpG P W [] T L F N a → wpList P ops Q (L.map (·.1) ++ rest) a w
 | [], _, F, N, a, w, hk, h => hT F N a w h hk.gr.toGr hk.fa
 | (o, .flo) :: L, hg, F, N, a, w, hk, ⟨v, hv, h⟩ => wpList_plain (hg _ List.mem_cons_self) fun K hK => by
     unfold Oper.wp
     rcases hv w hk.gr with he | ⟨he, rfl⟩
     · rw [he]; exact hK _ _ (listG hT L (fun p hp => hg p (List.mem_cons_of_mem _ hp)) F N _ w hk h)
     · rw [he]; exact hK _ _ (listG hT L (fun p hp => hg p (List.mem_cons_of_mem _ hp)) F N _ w hk h)
 | (o, .new X) :: L, hg, F, N, a, w, hk, ⟨hm, h⟩ => wpList_plain (hg _ List.mem_cons_self) fun K hK => by
     unfold Oper.wp; rw [hm w hk.gr]; exact hK _ _ (listG hT L (fun p hp => hg p (List.mem_cons_of_mem _ hp)) _ _ _ _ (hk.new X) (h _ hk.gr.size hk.fresh))
 | (o, .cha) :: L, hg, F, N, a, w, hk, h => wpList_plain (hg _ List.mem_cons_self) fun K hK => by
     exact (h w hk.gr hk.fa).wp fun v w' ⟨hgr, F', M, hs', hF', hl, h'⟩ => hK _ _ (listG hT L (fun p hp => hg p (List.mem_cons_of_mem _ hp)) F' _ _ w' (hk.call hgr hs' hF' hl) h')
theorem wp_region_seq {id : Nat} {a : Act} {w : World} {l : List Oper} (n : Nat) (ks : List Kd) (hB : (l.take n).all (·.guard.isNone) = true) (hk : ks.length = n) (hn : n ≤ l.length)
   (h : wpG P w [] (fun F _ a' => ∀ w', Gr w w' → F w' → wpList P l.toArray Q (l.drop n) a' w') ((l.take n).zip ks) (fun _ => True) [] a) : (Code.region id l.toArray false).wp P Q a w := by
 refine wp_region_lit ?_
 have e : ((l.take n).zip ks).map (·.1) ++ l.drop n = l := by
   rw [List.map_fst_zip (by simp; omega), List.take_append_drop]
 have := listG (P := P) (W := w) (Q := Q) (ops := l.toArray) (rest := l.drop n) (fun F N a w' hT hw hF => hT w' hw hF) ((l.take n).zip ks) (fun p hp => by
   have h1 := List.all_eq_true.1 hB p.1 (List.of_mem_zip hp).1
   simpa using h1) (fun _ => True) [] a w ⟨fun _ _ _ _ => trivial, GrS.refl _ _, trivial, (fun b hb => by cases hb), fun b hb => by cases hb⟩ h
 rwa [e] at this
end
section
variable {P : Program} {W : World} {S : List Nat} {T : (World → Prop) → List Nat → Act → Prop} {L : List (Oper × Kd)} {F : World → Prop} {N : List Nat} {a : Act} {o : Oper}
theorem gm_nil (h : T F N a) : wpG P W S T [] F N a := h
theorem gm_loadS {t : TypeId} (x : Operand) (ho : o.op = .load t x) (b : Nat) (cs : Array Value) (t' : TypeId) (fr : Nat × Nat) (d : TypeDesc) (hb : W.heap[b]? = some (.cells cs t' fr)) (hbS : b ∉ S) (hx : a.eval x = .pointer (some ⟨b, 0, none⟩))
   (hu : P.underlying t = some d) (hd : (match d with | .struct _ | .array _ _ => true | _ => false) = true) (hi : (P.info? t).map (·.size) = some cs.size)
   (h : wpG P W S T L F N (a.put o.dst (.agg cs))) : wpG P W S T ((o, .flo) :: L) F N a :=
 ⟨_, fun w hw => .inl <| by
   unfold execOp
   simp only [ho, hx, Instr.loadAt, Instr.sureAddr, Sem.run_bind, Sem.run_pure, Result.andThen_ok, run_loadVar_row w b t' t cs fr d (hw.at hbS hb) hu hd hi], h⟩
theorem gm_load {t : TypeId} (x : Operand) (ho : o.op = .load t x) (b : Nat) (cs : Array Value) (t' : TypeId) (fr : Nat × Nat) (d : TypeDesc) (hb : W.heap[b]? = some (.cells cs t' fr)) (hx : a.eval x = .pointer (some ⟨b, 0, none⟩))
   (hu : P.underlying t = some d) (hd : (match d with | .struct _ | .array _ _ => true | _ => false) = true) (hi : (P.info? t).map (·.size) = some cs.size)
   (h : wpG P W [] T L F N (a.put o.dst (.agg cs))) : wpG P W [] T ((o, .flo) :: L) F N a :=
 gm_loadS x ho b cs t' fr d hb (fun h => by cases h) hx hu hd hi h
def goesB (P : Program) (f : FuncId) : Bool := match P.funcs[f]? with | some fn => !(fn.name == "runtime.NumGoroutine") && fn.body.isSome | none => false
theorem exec_call {f : FuncId} {l : List Operand} {ts : Array TypeId} {vl : List Value} (hb : goesB P f = true) (ho : o.op = .call { callee := .value (.func f), args := l.toArray, argTypes := ts }) (hv : l.map a.eval = vl) (w : World) :
   (execOp a.eval o).run P w = .ok (.enter f vl.toArray) w := by
 obtain ⟨dst, op, ty, pos, after, guard⟩ := o
 subst ho
 rw [execOp_call_go]
 subst hv
 unfold goesB at hb
 cases hf : P.funcs[f]? with
 | none => simp [hf] at hb
 | some fn =>
   simp only [hf, Bool.and_eq_true, Bool.not_eq_true', beq_eq_false_iff_ne] at hb
   have h2 : fn.body ≠ none := fun h => by simp [h] at hb
   simp [callFunc, hf, hb.1, h2]
theorem gm_call {f : FuncId} {l : List Operand} {ts : Array TypeId} (vl : List Value) (hb : goesB P f = true) (ho : o.op = .call { callee := .value (.func f), args := l.toArray, argTypes := ts }) (hv : l.map a.eval = vl) (hF : Stb F)
   (h : ∀ w, GrS S W w → F w → Calls P f vl.toArray w (fun e w' => ∃ v, e = .returned v ∧ Gr w w' ∧ wpG P W S T L F N (a.put o.dst v))) : wpG P W S T ((o, .cha) :: L) F N a :=
 fun w hw hFw => .inl ⟨f, vl.toArray, exec_call hb ho hv w, (h w hw hFw).mono fun _ w' ⟨v, hv, hg, hr⟩ => ⟨v, hv, (hg.toS S).d, F, [], hF, hF _ _ hg hFw, fun _ hb => (by cases hb), hr⟩⟩
theorem gm_callF {f : FuncId} {l : List Operand} {ts : Array TypeId} (vl : List Value) (hb : goesB P f = true) (ho : o.op = .call { callee := .value (.func f), args := l.toArray, argTypes := ts }) (hv : l.map a.eval = vl)
   (h : ∀ w, GrS S W w → F w → Calls P f vl.toArray w (fun e w' => ∃ v, e = .returned v ∧ Gr w w' ∧ ∃ F' N', Stb F' ∧ F' w' ∧ (∀ b ∈ N', w.heap.size ≤ b ∧ b < w'.heap.size) ∧ wpG P W S T L F' (N' ++ N) (a.put o.dst v))) : wpG P W S T ((o, .cha) :: L) F N a :=
 fun w hw hFw => .inl ⟨f, vl.toArray, exec_call hb ho hv w, (h w hw hFw).mono fun _ w' ⟨v, hv, hg, hr⟩ => ⟨v, hv, (hg.toS S).d, hr⟩⟩
theorem gm_flo (v : Value) (h : ∀ w, GrS S W w → (execOp a.eval o).run P w = .ok (.value v) w) (hr : wpG P W S T L F N (a.put o.dst v)) : wpG P W S T ((o, .flo) :: L) F N a := ⟨v, fun w hw => .inl (h w hw), hr⟩
theorem gm_move (x : Operand) (ho : o.op = .move x ∨ o.op = .assign x) (v : Value) (hx : a.eval x = v) (h : wpG P W S T L F N (a.put o.dst v)) : wpG P W S T ((o, .flo) :: L) F N a :=
 ⟨v, fun w _ => .inl <| by subst hx; unfold execOp; rcases ho with ho | ho <;> simp only [ho] <;> rfl, h⟩
theorem gm_alloc {t : TypeId} (ho : o.op = .alloc t) (X : Obj) (hm : ∀ w, (Instr.alloc t true (.tuple #[])).run P w = .ok (.pointer (some ⟨w.heap.size, 0, none⟩)) (w.alloc X))
   (h : ∀ b, W.heap.size ≤ b → b ∉ N → wpG P W S T L (fun w => F w ∧ w.heap[b]? = some X) (b :: N) (a.put o.dst (.pointer (some ⟨b, 0, none⟩)))) : wpG P W S T ((o, .new X) :: L) F N a :=
 ⟨fun w _ => by unfold execOp; simp only [ho, Sem.run_bind, hm, Result.andThen_ok, Sem.run_pure], h⟩
theorem gm_extract {vs : Array Value} (x : Operand) (i : Nat) (ho : o.op = .extract x i) (hx : a.eval x = .tuple vs) (v : Value) (hv : vs[i]? = some v) (h : wpG P W S T L F N (a.put o.dst v)) : wpG P W S T ((o, .flo) :: L) F N a :=
 ⟨v, fun w _ => .inl <| by unfold execOp; simp only [ho, hx]; simp [Instr.extract, hv], h⟩
theorem gm_store {t : TypeId} (x y : Operand) (ho : o.op = .store t x y) (b : Nat) (old cs : Array Value) (t' : TypeId) (hx : a.eval x = .pointer (some ⟨b, 0, none⟩)) (hy : a.eval y = .agg cs) (hbS : b ∈ S) (hd : o.dst = none)
   (hi : (P.info? t).map (·.size) = some cs.size) (hold : old.size = cs.size) (h1 : cs.all (·.oneCell') = true) (G : World → Prop) (hFG : ∀ w, F w → G w ∧ w.heap[b]? = some (.cells old t' (0, 0))) (hG : Stb G) (hGs : ∀ w, G w → G (w.setRow b cs))
   (h : wpG P W S T L (fun w => G w ∧ w.heap[b]? = some (.cells cs t' (0, 0))) N a) : wpG P W S T ((o, .cha) :: L) F N a :=
 fun w hw hFw => .inr (.inl ⟨w.setRow b cs, by
   unfold execOp
   simp only [ho, hx, hy, Instr.storeAt, Instr.sureAddr, Sem.run_bind, Sem.run_pure, Result.andThen_ok, run_storeVar_row w b t' t old cs (hFG w hFw).2 hi hold h1], ((GrS.refl S w).setRow (.inr hbS) cs).d, _, [], hG.new b _, ⟨hGs w (hFG w hFw).1, setRow_heap _ _ _ _ _ _ (hFG w hFw).2⟩, fun _ hb => (by cases hb), by rw [hd]; exact h⟩)
theorem gm_storeN {t : TypeId} (x y : Operand) (ho : o.op = .store t x y) (b : Nat) (old cs : Array Value) (t' : TypeId) (hx : a.eval x = .pointer (some ⟨b, 0, none⟩)) (hy : a.eval y = .agg cs) (hbN : b ∈ N) (hd : o.dst = none)
   (hi : (P.info? t).map (·.size) = some cs.size) (hold : old.size = cs.size) (h1 : cs.all (·.oneCell') = true) (G : World → Prop) (hFG : ∀ w, F w → G w ∧ w.heap[b]? = some (.cells old t' (0, 0))) (hG : Stb G) (hGs : ∀ w, G w → G (w.setRow b cs))
   (h : wpG P W S T L (fun w => G w ∧ w.heap[b]? = some (.cells cs t' (0, 0))) N a) : wpG P W S T ((o, .cha) :: L) F N a :=
 fun w hw hFw => .inr (.inl ⟨w.setRow b cs, by
   unfold execOp
   simp only [ho, hx, hy, Instr.storeAt, Instr.sureAddr, Sem.run_bind, Sem.run_pure, Result.andThen_ok, run_storeVar_row w b t' t old cs (hFG w hFw).2 hi hold h1], ⟨[b], (fun d hd => by simp at hd; subst hd; exact hbN), (GrS.refl _ w).setRow (.inr (by simp)) cs⟩, _, [], hG.new b _, ⟨hGs w (hFG w hFw).1, setRow_heap _ _ _ _ _ _ (hFG w hFw).2⟩, fun _ hb => (by cases hb), by rw [hd]; exact h⟩)
theorem gm_val (h : ∀ w, GrS S W w → F w → ∃ v w', (execOp a.eval o).run P w = .ok (.value v) w' ∧ Gr w w' ∧ ∃ F' N', Stb F' ∧ F' w' ∧ (∀ b ∈ N', w.heap.size ≤ b ∧ b < w'.heap.size) ∧ wpG P W S T L F' (N' ++ N) (a.put o.dst v)) : wpG P W S T ((o, .cha) :: L) F N a :=
 fun w hw hFw => by
   obtain ⟨v, w', he, hg, hr⟩ := h w hw hFw
   exact .inr (.inr ⟨v, w', he, (hg.toS S).d, hr⟩)
end
open Go Go.RowKit
def Obj.put (o : Obj) (i : Nat) (v : Value) : Obj :=
 match o with
 | .cells c e fr => .cells (c.setIfInBounds i v) e fr
 | o => o
theorem heap_set (w : World) (b i : Nat) (v : Value) (k : Nat) : (w.setCell ⟨b, i, none⟩ v).heap[k]? = if k = b then (w.heap[k]?).map (Obj.put · i v) else w.heap[k]? := by
 simp only [World.setCell, Array.getElem?_modify]
 by_cases h : b = k
 · subst h
   simp only [if_true]
   cases w.heap[b]? with
   | none => rfl
   | some o => cases o <;> rfl
 · rw [if_neg h, if_neg (fun e => h e.symm)]
structure Upd (S : List Nat) (w w' : World) : Prop where
 os : w'.os = w.os
 tape : w'.tape = w.tape
 output : w'.output = w.output
 size : w.heap.size ≤ w'.heap.size
 block : ∀ k, k < w.heap.size → k ∉ S → w'.heap[k]? = w.heap[k]?
theorem Upd.refl (S : List Nat) (w : World) : Upd S w w := ⟨rfl, rfl, rfl, Nat.le_refl _, fun _ _ _ => rfl⟩
theorem Upd.trans {S : List Nat} {a b c : World} (h : Upd S a b) (k : Upd S b c) : Upd S a c :=
 ⟨k.os.trans h.os, k.tape.trans h.tape, k.output.trans h.output, Nat.le_trans h.size k.size, fun i hi hn => (k.block i (Nat.lt_of_lt_of_le hi h.size) hn).trans (h.block i hi hn)⟩
theorem Upd.mono {S T : List Nat} {a b : World} (h : Upd S a b) (hs : ∀ k, k ∈ S → k ∈ T) : Upd T a b :=
 ⟨h.os, h.tape, h.output, h.size, fun i hi hn => h.block i hi (fun hm => hn (hs i hm))⟩
theorem Upd.setCell {S : List Nat} {a b : World} (h : Upd S a b) {p : Addr} (hp : p.block ∈ S ∨ a.heap.size ≤ p.block) (v : Value) : Upd S a (b.setCell p v) :=
 ⟨h.os, h.tape, h.output, by simpa using h.size, fun i hi hn => (Below.heap_setCell _ _ _ _ (fun e => by
   subst e
   rcases hp with hp | hp
   · exact hn hp
   · omega)).trans (h.block i hi hn)⟩
theorem Upd.alloc {S : List Nat} {a b : World} (h : Upd S a b) (o : Obj) : Upd S a (b.alloc o) :=
 ⟨h.os, h.tape, h.output, by have := h.size; simp; omega, fun i hi hn => (Below.heap_alloc _ _ _ (Nat.lt_of_lt_of_le hi h.size)).trans (h.block i hi hn)⟩
theorem Upd.drew {S : List Nat} {a b : World} (h : Upd S a b) : Upd S a b.drew := ⟨h.os, h.tape, h.output, h.size, h.block⟩
theorem Upd.drewN {S : List Nat} {a b : World} (h : Upd S a b) (n : Nat) : Upd S a (b.drewN n) := h.trans ⟨rfl, rfl, rfl, Nat.le_refl _, fun _ _ _ => rfl⟩
theorem Upd.of_below {S : List Nat} {a b : World} (h : Below a.heap.size a b) : Upd S a b := ⟨h.os, h.tape, h.output, h.size, fun i hi _ => h.block i hi⟩
theorem Upd.below {S : List Nat} {B : Nat} {a b c : World} (h : Below B a b) (k : Upd S b c) (hS : ∀ i, i ∈ S → B ≤ i) (hB : B ≤ b.heap.size) : Below B a c :=
 ⟨k.os.trans h.os, k.tape.trans h.tape, k.output.trans h.output, Nat.le_trans h.size k.size, fun i hi => (k.block i (by omega) (fun hm => by have := hS i hm; omega)).trans (h.block i hi)⟩
theorem Upd.trans2 {S : List Nat} {a b c : World} {k : Nat} (h : Upd S a b) (u : Upd [k] b c) (hk : k ∈ S ∨ a.heap.size ≤ k) : Upd S a c :=
 ⟨u.os.trans h.os, u.tape.trans h.tape, u.output.trans h.output, Nat.le_trans h.size u.size, fun i hi hn => (u.block i (Nat.lt_of_lt_of_le hi h.size) (fun hm => by
   rw [List.mem_singleton] at hm; subst hm
   rcases hk with hk | hk
   · exact hn hk
   · omega)).trans (h.block i hi hn)⟩
open Go Go.RowKit
theorem Gr.upd {w w' : World} (u : Gr w w') : Upd [] w w' := Upd.of_below u
section
variable {P : Program} {W : World} {S : List Nat} {T : (World → Prop) → List Nat → Act → Prop} {L : List (Oper × Kd)} {F : World → Prop} {N : List Nat} {a : Act} {o : Oper}
end
open Go Go.RowKit
theorem heap_setCells (b : Nat) (T : TypeId) : ∀ (vs P R : List Value) (w : World), w.heap[b]? = some (.cells (P ++ R).toArray T (0, 0)) → vs.length ≤ R.length →
   (w.setCells b P.length vs).heap[b]? = some (.cells (P ++ vs ++ R.drop vs.length).toArray T (0, 0))
 | [], P, R, w, h, _ => by simpa [World.setCells] using h
 | v :: vs, P, R, w, h, hl => by
   cases R with
   | nil => simp at hl
   | cons x R =>
     rw [World.setCells]
     have h1 : (w.setCell ⟨b, P.length, none⟩ v).heap[b]? = some (.cells ((P ++ [v]) ++ R).toArray T (0, 0)) := by
       rw [heap_setCell_same _ _ _ _ _ _ h, List.setIfInBounds_toArray, List.set_append_right _ _ (Nat.le_refl _), Nat.sub_self, List.set_cons_zero, List.append_assoc]; rfl
     have := heap_setCells b T vs (P ++ [v]) R _ h1 (by simpa using hl)
     rw [List.length_append, List.length_singleton] at this
     rw [this, List.length_cons, List.drop_succ_cons, List.append_assoc P [v] vs]; rfl
theorem upd_setCells (b : Nat) (vs : List Value) (o : Nat) (w : World) : Upd [b] w (w.setCells b o vs) := by
 induction vs generalizing o w with
 | nil => exact Upd.refl _ _
 | cons v vs ih => exact ((Upd.refl [b] w).setCell (p := ⟨b, o, none⟩) (by simp) v).trans (ih (o + 1) _)
theorem size_setCells (b : Nat) (vs : List Value) (o : Nat) (w : World) : (w.setCells b o vs).heap.size = w.heap.size := by
 induction vs generalizing o w with
 | nil => rfl
 | cons v vs ih => rw [World.setCells, ih]; simp
theorem append_room {P : Program} {t e ty T : TypeId} {i : TypeInfo} (ht : P.underlying t = some (.slice e)) (hi : P.info? e = some i) (hsz : i.size = 1)
   {w : World} {g cap n m c : Nat} {a : Addr} {xs news R : List Value} (hg : w.heap[g]? = some (.cells (xs ++ R).toArray T (0, 0))) (hn : xs.length = n) (hm : news.length = m)
   (hnews : ∀ j u, news[j]? = some u → w.cell? (a.add j) = some u) (h1 : ∀ u ∈ news, u.oneCell' = true) (hroom : n + m ≤ cap) (hR : m ≤ R.length) :
   (Builtin.append_ #[t, t] ty #[.slice (some ⟨g, 0, none⟩) n cap, .slice (some a) m c]).run P w = .ok (.slice (some ⟨g, 0, none⟩) (n + m) cap) (w.setCells g n news) ∧
     (w.setCells g n news).heap[g]? = some (.cells (xs ++ news ++ R.drop m).toArray T (0, 0)) := by
 subst hn hm
 have h := run_append_room_cells (P := P) (w := w) t ty e i ht hi g 0 xs.length cap a news.length c news (by rw [hsz, Nat.mul_one]) hnews h1 hroom (fun j hj => by
   rw [hsz, Nat.zero_add, Nat.mul_one, cell_of_row _ _ _ _ _ _ hg, List.getElem?_toArray, List.getElem?_append_right (by omega), List.getElem?_eq_getElem (by omega)]; rfl) (fun j hj => frozen_of_row _ _ _ _ _ hg)
 rw [hsz, Nat.zero_add, Nat.mul_one] at h
 exact ⟨h, heap_setCells g T news xs R w hg hR⟩
theorem make_room {P : Program} {t e : TypeId} {z : Value} {by_ : Nat} (ht : P.underlying t = some (.slice e)) (hinfo : (P.info? e).map (fun i => (i.zero, i.size, i.bytes)) = some (some z, 1, by_)) (hz : z.cells = #[z])
   (l c : Nat) (hlc : l ≤ c) (hc : c ≤ 1000000) (hby : by_ ≤ 16) (x y : Int) (hx : x = l) (hy : y = c) (w : World) :
   (Instr.makeSlice t (.int .i64 x) (.int .i64 y)).run P w = .ok (.slice (some ⟨w.heap.size, 0, none⟩) l c) (w.alloc (.cells (List.replicate c z).toArray e)) := by
 subst hx hy
 obtain ⟨i0, hi, hz0, hz1, hz2⟩ := info_parts hinfo
 have hb : (by_ : Int) * c ≤ 281474976710656 := by
   have : by_ * c ≤ 16 * 1000000 := Nat.mul_le_mul hby hc
   omega
 have h := run_make (P := P) w t e i0 z ht hi hz0 .i64 .i64 l c (by omega) (by omega) (by rw [hz2]; exact hb) (by omega)
 rw [h, hz1, Int.toNat_natCast, Int.toNat_natCast, Nat.mul_one, hz]
 congr 3
 apply Array.ext
 · simp [madeCells]
 · intro i h1 h2
   simp [madeCells, Nat.mod_one]
theorem wpList_append_run {P : Program} {w w' : World} {ops : Array Oper} {rest : List Oper} {o : Oper} {a : Act} {Q : Exit → Act → World → Prop} (hg : o.guard = none) (s x : Operand) (t : TypeId)
   (hop : o.op = Op.call { callee := Callee.builtin Builtin.append, args := #[s, x], argTypes := #[t, t] }) {v1 v2 v : Value} (hs : a.eval s = v1) (hx : a.eval x = v2)
   (hrun : (Builtin.append_ #[t, t] o.type #[v1, v2]).run P w = .ok v w') (hK : wpList P ops Q rest (a.put o.dst v) w') : wpList P ops Q (o :: rest) a w := by
 refine wpList_plain hg fun K hK' => ?_
 unfold Oper.wp
 simp [execOp, hop, resolve, invoke, builtin, hs, hx, hrun, Result.andThen]
 exact hK' _ _ hK
theorem wpList_append1 {P : Program} {w w0 : World} {ops : Array Oper} {rest : List Oper} {o : Oper} {a : Act} {Q : Exit → Act → World → Prop} (hgd : o.guard = none) (s x : Operand) (t : TypeId)
   (ho : o.op = .call { callee := .builtin .append, args := #[s, x], argTypes := #[t, t] })
   (B : Nat) (e : TypeId) (z : Value) (by_ : Nat) (ht : P.underlying t = some (.slice e)) (hi : (P.info? e).map (fun i => (i.zero, i.size, i.bytes)) = some (some z, 1, by_)) (hz : z.cells.size = 1)
   (v : Value) (n : Nat) (xs : List Value) (hs : a.eval s = v) (hown : w.ownsRow B e 1 v n xs) (hb : Below B w0 w) (hB : B ≤ w.heap.size)
   (y : Value) (hx : a.eval x = .slice (some ⟨w.heap.size, 0, none⟩) 1 1) (h1 : y.oneCell' = true) (hn : n ≤ 1000000000) (hby : by_ ≤ 16)
   (h : ∀ v' w', w'.ownsRow B e 1 v' (n + 1) (xs ++ [y]) → Below B w0 w' → B ≤ w'.heap.size → (w.alloc (.cells #[y] e)).grownBy w' v.ownBlock → v' ≠ .slice none 0 0 → wpList P ops Q rest (a.put o.dst v') w') :
   wpList P ops Q (o :: rest) a (w.alloc (.cells #[y] e)) := by
 obtain ⟨i0, hi0, hz0, hz1, hz2⟩ := info_parts hi
 refine wpList_append_own _ hgd s x t ho B e i0 z 1 by_ ht hi0 hz0 hz1 hz2 hz (by decide) v n xs hs (hown.alloc _) ⟨w.heap.size, 0, none⟩ 1 1 [y] hx rfl ?_ ?_ ?_ ?_ ?_ ?_
 · intro j u hj
   match j, hj with
   | 0, hj => simp at hj; subst hj; simp [Addr.add]
 · intro u hu; simp at hu; subst hu; exact h1
 · unfold maxLen; omega
 · have : (n + 1) * by_ ≤ (n + 1) * 16 := Nat.mul_le_mul (Nat.le_refl _) hby
   omega
 · simp; omega
 · intro v' w' ho' hg' hnil
   have hlo := hown.lt
   have hbel := (hb.alloc hB (.cells #[y] e)).grown hg' (by simp; omega) (fun t ht => (hlo t ht).1)
   have hs' := hg'.size
   rw [World.size_alloc] at hs'
   exact h v' w' ho' hbel (by omega) hg' (fun e => absurd (hnil.1 e).2 (by decide))
theorem owned_cells {w : World} {base n : Nat} {e : TypeId} {v : Value} {xs : List Value} (h : w.ownsRow base e 1 v n xs) (hn : v ≠ .slice none 0 0) :
   ∃ g cap, v = .slice (some ⟨g, 0, none⟩) n cap ∧ base ≤ g ∧ (∀ j u, xs[j]? = some u → w.cell? ⟨g, j, none⟩ = some u) ∧ g < w.heap.size ∧ n ≤ cap := by
 have hc := fun g hg => h.cells (g := g) hg
 rcases h.2 with ⟨rfl, rfl⟩ | ⟨g, cap, cur, rfl, hbg, hg, hnc, _⟩
 · exact absurd rfl hn
 · refine ⟨g, cap, rfl, hbg, fun j u hu => ?_, (Array.getElem?_eq_some_iff.1 hg).1, hnc⟩
   have := hc g rfl j u hu
   rwa [show ((⟨g, 0, none⟩ : Addr).add j) = ⟨g, j, none⟩ from by unfold Addr.add; split <;> simp_all] at this
theorem run_str_at (P : Program) (w : World) (b off cap : Nat) (l : List UInt8) (src dst e : TypeId) (n : Nat) (hn : l.length = n)
   (hs : P.underlying src = some (.slice e)) (he : P.underlying e = some (.int .u8)) (hd : P.underlying dst = some .string)
   (hg : ∀ j u, l[j]? = some u → w.cell? ⟨b, off + j, none⟩ = some (.int .u8 (u.toNat : Int))) :
   (convert src dst (.slice (some ⟨b, off, none⟩) n cap)).run P w = .ok (.string ⟨l.toArray⟩) w := by
 subst hn
 rw [run_convert_bytes_string w src dst e _ _ _ hs he hd]
 have h := run_loadCells_list (P := P) (w := w) ⟨b, off, none⟩ ((l.map fun u => (u.toNat : Int)).map (Value.int .u8)) (by
   intro j v hj
   have : (⟨b, off, none⟩ : Addr).add j = ⟨b, off + j, none⟩ := by unfold Addr.add; split <;> simp_all
   rw [this]
   rw [List.getElem?_map, List.getElem?_map] at hj
   cases hl : l[j]? with
   | none => rw [hl] at hj; simp at hj
   | some u => rw [hl] at hj; simp at hj; subst hj; exact hg j u hl)
 rw [List.length_map, List.length_map] at h
 rw [run_bytesToString w _ _ _ _ h]
 have : ∀ (l : List UInt8) (acc : ByteArray), (l.map fun u => (u.toNat : Int)).foldl (fun r n => r.push (UInt8.ofNat n.toNat)) acc = ⟨(acc.data.toList ++ l).toArray⟩ := by
   intro l
   induction l with
   | nil => intro acc; simp
   | cons c l ih => intro acc; simp only [List.map_cons, List.foldl_cons]; rw [ih]; simp [ByteArray.push]
 rw [this]
 rfl
theorem wpList_built {P : Program} {ops : Array Oper} {rest : List Oper} {o : Oper} {a : Act} {w : World} {Q : Exit → Act → World → Prop} (hg : o.guard = none) (t : TypeId) (parts : Array (Nat × Operand)) (ho : o.op = .build t parts)
   (cs : Array Value) (hf : P.built t (parts.map fun (i, x) => (i, a.eval x)).toList = some cs) (h : wpList P ops Q rest (a.put o.dst (.agg cs)) w) : wpList P ops Q (o :: rest) a w :=
 wpList_build hg t parts ho (by rw [hf]; rfl) (by rw [hf]; exact h)
def byv (u : UInt8) : Value := .int .u8 (u.toNat : Int)
theorem run_str_owned {P : Program} {w : World} {base n : Nat} {e src dst : TypeId} {v : Value} {l : List UInt8} (h : w.ownsRow base e 1 v n (l.map byv)) (hn : v ≠ .slice none 0 0)
   (hs : P.underlying src = some (.slice e)) (he : P.underlying e = some (.int .u8)) (hd : P.underlying dst = some .string) : (convert src dst v).run P w = .ok (.string ⟨l.toArray⟩) w := by
 have hl := h.1
 rw [List.length_map, Nat.mul_one] at hl
 obtain ⟨g, cap, rfl, _, hc, _, _⟩ := owned_cells h hn
 exact run_str_at P w g 0 cap l src dst e n hl hs he hd (fun j u hj => by rw [Nat.zero_add]; exact hc j _ (by rw [List.getElem?_map, hj]; rfl))
open Go Go.RowKit
def Own (w : World) (base : Nat) (e : TypeId) (v : Value) (n : Nat) (xs : List Value) : Prop :=
 xs.length = n ∧ ((v = .slice none 0 0 ∧ n = 0) ∨
   ∃ (g cap : Nat) (cur : Array Value) (fr : Nat × Nat), v = .slice (some ⟨g, 0, none⟩) n cap ∧ base ≤ g ∧ w.heap[g]? = some (.cells cur e fr) ∧ n ≤ cap ∧ cap ≤ maxLen ∧ cur.size = cap ∧ cur.toList.take n = xs ∧ (fr.2 = 0 ∨ cap ≤ fr.1))
theorem Own.nil (w : World) (base : Nat) (e : TypeId) : Own w base e (.slice none 0 0) 0 [] := ⟨rfl, .inl ⟨rfl, rfl⟩⟩
theorem Own.of {w : World} {base : Nat} {e : TypeId} {v : Value} {n : Nat} {xs : List Value} (h : w.ownsRow base e 1 v n xs) : Own w base e v n xs := by
 refine ⟨by simpa using h.1, ?_⟩
 rcases h.2 with ⟨a, b⟩ | ⟨g, cap, cur, a, b, c, d, e', f, k⟩
 · exact .inl ⟨a, b⟩
 · exact .inr ⟨g, cap, cur, (0, 0), a, b, c, d, e', by simpa using f, by simpa using k, .inl rfl⟩
theorem Own.made (w : World) (e : TypeId) (cur : Array Value) (cap base : Nat) (hb : base ≤ w.heap.size) (hm : cap ≤ maxLen) (hs : cur.size = cap) :
   Own (w.alloc (.cells cur e)) base e (.slice (some ⟨w.heap.size, 0, none⟩) 0 cap) 0 [] :=
 ⟨rfl, .inr ⟨w.heap.size, cap, cur, (0, 0), rfl, hb, heap_alloc_new w _, Nat.zero_le _, hm, hs, rfl, .inl rfl⟩⟩
theorem Own.lt {w : World} {base : Nat} {e : TypeId} {v : Value} {n : Nat} {xs : List Value} (h : Own w base e v n xs) : ∀ k, v.ownBlock = some k → base ≤ k ∧ k < w.heap.size := by
 intro k hk
 rcases h.2 with ⟨rfl, _⟩ | ⟨g, cap, cur, fr, rfl, hb, hg, _⟩
 · simp [Value.ownBlock] at hk
 · simp [Value.ownBlock] at hk
   subst hk
   exact ⟨hb, (Array.getElem?_eq_some_iff.1 hg).1⟩
theorem Own.keep {w w' : World} {base : Nat} {e : TypeId} {v : Value} {n : Nat} {xs : List Value} (h : Own w base e v n xs) (hk : ∀ k, v.ownBlock = some k → w'.heap[k]? = w.heap[k]?) : Own w' base e v n xs := by
 refine ⟨h.1, ?_⟩
 rcases h.2 with ⟨a, b⟩ | ⟨g, cap, cur, fr, rfl, b, c, d⟩
 · exact .inl ⟨a, b⟩
 · exact .inr ⟨g, cap, cur, fr, rfl, b, (hk g rfl).trans c, d⟩
theorem Own.alloc {w : World} {base : Nat} {e : TypeId} {v : Value} {n : Nat} {xs : List Value} (h : Own w base e v n xs) (o : Obj) : Own (w.alloc o) base e v n xs :=
 h.keep fun k hk => heap_alloc_old _ _ (h.lt k hk).2
theorem Own.drew {w : World} {base : Nat} {e : TypeId} {v : Value} {n : Nat} {xs : List Value} (h : Own w base e v n xs) : Own w.drew base e v n xs := h.keep fun _ _ => rfl
theorem Own.drewN {w : World} {base : Nat} {e : TypeId} {v : Value} {n : Nat} {xs : List Value} (h : Own w base e v n xs) (k : Nat) : Own (w.drewN k) base e v n xs := h.keep fun _ _ => rfl
theorem Own.below {w w' : World} {base : Nat} {e : TypeId} {v : Value} {n : Nat} {xs : List Value} (h : Own w base e v n xs) (hb : Below w.heap.size w w') : Own w' base e v n xs :=
 h.keep fun k hk => hb.block k (h.lt k hk).2
theorem Own.cells {w : World} {base n : Nat} {e : TypeId} {v : Value} {xs : List Value} (h : Own w base e v n xs) (hn : v ≠ .slice none 0 0) :
   ∃ g cap, v = .slice (some ⟨g, 0, none⟩) n cap ∧ base ≤ g ∧ (∀ j u, xs[j]? = some u → w.cell? ⟨g, j, none⟩ = some u) ∧ g < w.heap.size ∧ n ≤ cap := by
 rcases h.2 with ⟨rfl, rfl⟩ | ⟨g, cap, cur, fr, rfl, hbg, hg, hnc, hm, hcs, htake, _⟩
 · exact absurd rfl hn
 · refine ⟨g, cap, rfl, hbg, fun j u hu => ?_, (Array.getElem?_eq_some_iff.1 hg).1, hnc⟩
   rw [cell_of_row _ _ _ _ _ _ hg]
   rw [← htake, List.getElem?_take] at hu
   split at hu
   · simpa using hu
   · cases hu
theorem run_append_Own {P : Program} (w : World) (base : Nat) (t ty e : TypeId) (z : Value) (by_ : Nat) (ht : P.underlying t = some (.slice e)) (hi : (P.info? e).map (fun i => (i.zero, i.size, i.bytes)) = some (some z, 1, by_)) (hz : z.cells.size = 1)
   (v : Value) (n : Nat) (xs : List Value) (hown : Own w base e v n xs) (a : Addr) (m c : Nat) (news : List Value) (hl : news.length = m) (hnews : ∀ j u, news[j]? = some u → w.cell? (a.add j) = some u) (h1 : ∀ u ∈ news, u.oneCell' = true)
   (hm : 0 < m) (hn : n + m ≤ 1000000000) (hby : by_ ≤ 16) (hbase : base ≤ w.heap.size) :
   ∃ v' w', (Builtin.append_ #[t, t] ty #[v, .slice (some a) m c]).run P w = .ok v' w' ∧ Own w' base e v' (n + m) (xs ++ news) ∧ w.grownBy w' v.ownBlock ∧ v' ≠ .slice none 0 0 := by
 obtain ⟨i0, hi0, hz0, hz1, hz2⟩ := info_parts hi
 have hlen : (xs ++ news).length = n + m := by rw [List.length_append, hown.1, hl]
 have hbytes : (n + m) * by_ ≤ 140737488355328 := by
   have : (n + m) * by_ ≤ (n + m) * 16 := Nat.mul_le_mul (Nat.le_refl _) hby
   omega
 have h63 : n + m ≤ maxLen := by unfold maxLen; omega
 rcases hown.2 with ⟨rfl, rfl⟩ | ⟨g, cap, cur, fr, rfl, hbg, hg, hnc, hcm, hcs, htake, hfr⟩
 · have hx : xs = [] := List.eq_nil_of_length_eq_zero hown.1
   subst hx
   obtain ⟨v', w', r1, r2, r3, r4⟩ := run_append_own (P := P) w base t ty e i0 z 1 by_ ht hi0 hz0 hz1 hz2 hz (by decide) (.slice none 0 0) 0 [] (World.ownsRow_nil _ _ _ _) a m c news (by rw [hl, Nat.mul_one]) hnews h1 h63 hbytes hbase
   exact ⟨v', w', r1, Own.of r2, r3, fun e => by have := (r4.1 e).2; omega⟩
 · by_cases hroom : n + m ≤ cap
   · have hr := run_append_room_cells (P := P) (w := w) t ty e i0 ht hi0 g 0 n cap a m c news (by rw [hl, hz1, Nat.mul_one]) hnews h1 hroom (fun j hj => by
       rw [hz1, Nat.zero_add, Nat.mul_one, cell_of_row _ _ _ _ _ _ hg, Array.getElem?_eq_getElem (by omega)]; rfl) (fun j hj => by
       rw [hz1, Nat.zero_add, Nat.mul_one]
       simp only [World.frozen?, hg]
       rcases hfr with hfr | hfr
       · rw [hfr]; simp
       · have : ¬ fr.1 ≤ n + j := by omega
         simp [this])
     rw [hz1, Nat.zero_add, Nat.mul_one] at hr
     have hset : ∀ (vs : List Value) (o : Nat) (W : World) (C : Array Value), W.heap[g]? = some (.cells C e fr) → o + vs.length ≤ C.size → ∃ C', (W.setCells g o vs).heap[g]? = some (.cells C' e fr) ∧ C'.size = C.size ∧ C'.toList.take (o + vs.length) = C.toList.take o ++ vs := by
       intro vs
       induction vs with
       | nil => intro o W C hC _; exact ⟨C, hC, rfl, by simp⟩
       | cons u vs ih =>
         intro o W C hC hle
         rw [List.length_cons] at hle
         obtain ⟨C', q1, q2, q3⟩ := ih (o + 1) (W.setCell ⟨g, o, none⟩ u) (C.setIfInBounds o u) (by rw [heap_set, if_pos rfl, hC]; rfl) (by simp; omega)
         refine ⟨C', q1, by simpa using q2, ?_⟩
         rw [List.length_cons, show o + (vs.length + 1) = o + 1 + vs.length from by omega, q3, Array.toList_setIfInBounds, List.take_succ_eq_append_getElem (by simp; omega), List.take_set_of_le (by omega)]
         simp
     obtain ⟨C', q1, q2, q3⟩ := hset news n w cur hg (by omega)
     refine ⟨_, _, hr, ⟨hlen, .inr ⟨g, cap, C', fr, rfl, hbg, q1, hroom, hcm, q2.trans hcs, ?_, hfr⟩⟩, ⟨?_, ?_, ?_, ?_, ?_⟩, by simp⟩
     · rw [← hl, q3, htake]
     · exact (upd_setCells g news n w).os
     · exact (upd_setCells g news n w).tape
     · exact (upd_setCells g news n w).output
     · exact (upd_setCells g news n w).size
     · intro k hk hne
       exact (upd_setCells g news n w).block k hk (by simp only [List.mem_singleton]; intro e; exact hne (by simp [Value.ownBlock, e]))
   · have holds : ∀ j u, xs[j]? = some u → w.cell? ((⟨g, 0, none⟩ : Addr).add j) = some u := by
       intro j u hu
       rw [show ((⟨g, 0, none⟩ : Addr).add j) = ⟨g, j, none⟩ from by unfold Addr.add; split <;> simp_all, cell_of_row _ _ _ _ _ _ hg]
       rw [← htake, List.getElem?_take] at hu
       split at hu
       · simpa using hu
       · cases hu
     have hr := run_append_grow (P := P) w t ty e i0 z ht hi0 hz0 ⟨g, 0, none⟩ n cap xs (by rw [hz1, Nat.mul_one]; exact hown.1) holds a m c news (by rw [hz1, Nat.mul_one]; exact hl) hnews (by omega) (by omega) (growslice_fits (by omega) (by rw [hz2]; exact hbytes))
     have hge := grownCap_ge w (n + m) cap e
     have hcm' : grownCap w (n + m) cap e ≤ maxLen := grownCap_le_maxLen w (n + m) cap e h63
     refine ⟨_, _, hr, ⟨hlen, .inr ⟨w.heap.size, _, _, (0, 0), rfl, hbase, heap_alloc_new w.drew _, hge, hcm', ?_, ?_, .inl rfl⟩⟩, ⟨rfl, rfl, rfl, by simp, fun k hk _ => heap_alloc_old w.drew _ hk⟩, by simp⟩
     · simp only [Array.size_append, List.size_toArray, size_zeroCells, hz, hown.1, hl]
       omega
     · simp only [Array.toList_append, List.append_assoc]
       rw [← List.append_assoc, ← hlen]
       exact List.take_left
theorem wpList_app {P : Program} {w w0 : World} {ops : Array Oper} {rest : List Oper} {o : Oper} {a : Act} {Q : Exit → Act → World → Prop} (hgd : o.guard = none) (s x : Operand) (t : TypeId)
   (ho : o.op = .call { callee := .builtin .append, args := #[s, x], argTypes := #[t, t] })
   (B : Nat) (e : TypeId) (z : Value) (by_ : Nat) (ht : P.underlying t = some (.slice e)) (hi : (P.info? e).map (fun i => (i.zero, i.size, i.bytes)) = some (some z, 1, by_)) (hz : z.cells.size = 1)
   (v : Value) (n : Nat) (xs : List Value) (hs : a.eval s = v) (hown : Own w B e v n xs) (hb : Below B w0 w) (hB : B ≤ w.heap.size)
   (ad : Addr) (m c : Nat) (news : List Value) (hx : a.eval x = .slice (some ad) m c) (hl : news.length = m) (hnews : ∀ j u, news[j]? = some u → w.cell? (ad.add j) = some u) (h1 : ∀ u ∈ news, u.oneCell' = true) (hm : 0 < m) (hn : n + m ≤ 1000000000) (hby : by_ ≤ 16)
   (h : ∀ v' w', Own w' B e v' (n + m) (xs ++ news) → Below B w0 w' → B ≤ w'.heap.size → w.grownBy w' v.ownBlock → v' ≠ .slice none 0 0 → wpList P ops Q rest (a.put o.dst v') w') :
   wpList P ops Q (o :: rest) a w := by
 obtain ⟨v', w', r1, r2, r3, r4⟩ := run_append_Own (P := P) w B t o.type e z by_ ht hi hz v n xs hown ad m c news hl hnews h1 hm hn hby hB
 have hlo := hown.lt
 refine wpList_append_run hgd s x t ho hs hx r1 (h v' w' r2 (hb.grown r3 hB (fun t ht => (hlo t ht).1)) (Nat.le_trans hB r3.size) r3 r4)
theorem wpList_app1 {P : Program} {w w0 : World} {ops : Array Oper} {rest : List Oper} {o : Oper} {a : Act} {Q : Exit → Act → World → Prop} (hgd : o.guard = none) (s x : Operand) (t : TypeId)
   (ho : o.op = .call { callee := .builtin .append, args := #[s, x], argTypes := #[t, t] })
   (B : Nat) (e : TypeId) (z : Value) (by_ : Nat) (ht : P.underlying t = some (.slice e)) (hi : (P.info? e).map (fun i => (i.zero, i.size, i.bytes)) = some (some z, 1, by_)) (hz : z.cells.size = 1)
   (v : Value) (n : Nat) (xs : List Value) (hs : a.eval s = v) (hown : Own w B e v n xs) (hb : Below B w0 w) (hB : B ≤ w.heap.size)
   (g : Nat) (y : Value) (hx : a.eval x = .slice (some ⟨g, 0, none⟩) 1 1) (hy : w.cell? ⟨g, 0, none⟩ = some y) (h1 : y.oneCell' = true) (hn : n + 1 ≤ 1000000000) (hby : by_ ≤ 16)
   (h : ∀ v' w', Own w' B e v' (n + 1) (xs ++ [y]) → Below B w0 w' → B ≤ w'.heap.size → w.grownBy w' v.ownBlock → v' ≠ .slice none 0 0 → wpList P ops Q rest (a.put o.dst v') w') :
   wpList P ops Q (o :: rest) a w :=
 wpList_app hgd s x t ho B e z by_ ht hi hz v n xs hs hown hb hB ⟨g, 0, none⟩ 1 1 [y] hx rfl (fun j u hj => by
   match j, hj with
   | 0, hj => simp at hj; subst hj; simpa [Addr.add] using hy) (fun u hu => by simp at hu; subst hu; exact h1) (by decide) hn hby h
theorem Own.bytes (w : World) (s : ByteArray) (cap base : Nat) (e : TypeId) (hb : base ≤ w.heap.size) (hc : s.size ≤ cap) (hm : cap ≤ maxLen) :
   Own (w.alloc (.cells (bytesRow s cap) e ((bytesRow s cap).size, (bytesRow s cap).size + 1))) base e (.slice (some ⟨w.heap.size, 0, none⟩) s.size cap) s.size (s.data.toList.map byv) := by
 have hs : (bytesRow s cap).size = cap := by
   unfold bytesRow
   rw [Array.size_append, Array.size_map, Array.size_replicate]
   have : s.data.size = s.size := rfl
   omega
 refine ⟨by simp, .inr ⟨w.heap.size, cap, _, _, rfl, hb, heap_alloc_new w _, hc, hm, hs, ?_, .inr (by rw [hs]; exact Nat.le_refl _)⟩⟩
 unfold bytesRow
 rw [Array.toList_append, Array.toList_map]
 have : (s.data.toList.map fun b => Value.int .u8 b.toNat).length = s.size := by simp
 rw [← this]
 exact List.take_left
theorem run_tobytes {P : Program} (src dst e : TypeId) (s : ByteArray) (hs : P.underlying src = some .string) (hd : P.underlying dst = some (.slice e)) (he : P.underlying e = some (.int .u8)) (hl : s.size ≤ 1000000000) (base : Nat) (w : World) (hb : base ≤ w.heap.size) :
   ∃ cap C fr, (convert src dst (.string s)).run P w = .ok (.slice (some ⟨w.heap.size, 0, none⟩) s.size cap) (w.alloc (.cells C e fr)).drew ∧
     Own (w.alloc (.cells C e fr)) base e (.slice (some ⟨w.heap.size, 0, none⟩) s.size cap) s.size (s.data.toList.map byv) :=
 ⟨_, _, _, run_bytes_of_string w src dst e s hs hd he, Own.bytes w s _ base e hb (grownCap_ge w s.size 0 e) (grownCap_le_maxLen w s.size 0 e (by unfold maxLen; omega))⟩
theorem run_str_Own {P : Program} {w : World} {base n : Nat} {e src dst : TypeId} {v : Value} {l : List UInt8} (h : Own w base e v n (l.map byv)) (hn : v ≠ .slice none 0 0)
   (hs : P.underlying src = some (.slice e)) (he : P.underlying e = some (.int .u8)) (hd : P.underlying dst = some .string) : (convert src dst v).run P w = .ok (.string ⟨l.toArray⟩) w := by
 have hl := h.1
 rw [List.length_map] at hl
 obtain ⟨g, cap, rfl, _, hc, _, _⟩ := h.cells hn
 exact run_str_at P w g 0 cap l src dst e n hl hs he hd (fun j u hj => by rw [Nat.zero_add]; exact hc j _ (by rw [List.getElem?_map, hj]; rfl))
theorem bdrewN {B : Nat} {a w : World} (h : Below B a w) (n : Nat) : Below B a (w.drewN n) := ⟨h.os, h.tape, h.output, h.size, h.block⟩
theorem cell_new (w : World) (y : Value) (e : TypeId) : (w.alloc (.cells #[y] e)).cell? ⟨w.heap.size, 0, none⟩ = some y :=
 cell_of_row _ _ 0 _ _ _ (heap_alloc_new _ _)
end Go.Proofs.YtafhncpaoolljaaGreat
