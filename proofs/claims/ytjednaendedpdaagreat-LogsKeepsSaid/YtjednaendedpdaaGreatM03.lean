/- The flash: what a flash does of which no step is torn: plain laws. The flash: Clone. A part of a flash: size, place, reads, erases, counts. A part of a flash: erase, count, dead, clone, clean, new. A part of a flash: New, Write. A part of a flash: New. -/
import Derived.Test.YtjednaendedpdaaGreatM02
import Derived.Lib.Bytealg
import Derived.Deep.DeepCutAuto
namespace Go.Proofs.YtjednaendedpdaaGreat
set_option maxRecDepth 100000
set_option linter.unusedVariables false
open Go Go.RowKit

/-- No failure is laid, the power is on. -/
structure FS.Still (s : FS) : Prop where
  armed : s.armed = 0
  dead : s.dead = false

theorem andBytes_any (b : List UInt8) (A : Nat) (l : List UInt8) (k : Int) (m : UInt8) : progBytes b A l false k m = progBytes b A l false 0 0 := by
  simp only [progBytes, progByte, true_or, if_true]
theorem fullErase_any (b : List UInt8) (A m : Nat) (k : Int) (c : UInt8) : eraseUpto b A m false k c = eraseUpto b A m false 0 0 := by
  simp only [eraseUpto, eraseByte, true_or, if_true]

/-- What Program answers, and whether it does something, at so many bytes. -/
def ansP (n : Nat) (at_ : Int) (l : List UInt8) : Int := if onB n at_ l.length = false then 111 else if l = [] then 0 else if at_ / 64 ≠ (at_ + l.length - 1) / 64 then 112 else 0
def actP (n : Nat) (at_ : Int) (l : List UInt8) : Bool := if onB n at_ l.length = false then false else if l = [] then false else if at_ / 64 ≠ (at_ + l.length - 1) / 64 then false else true
def progS (b : List UInt8) (at_ : Int) (l : List UInt8) : List UInt8 := if actP b.length at_ l then progBytes b at_.toNat l false 0 0 else b
theorem progS_length (b : List UInt8) (at_ : Int) (l : List UInt8) : (progS b at_ l).length = b.length := by
  unfold progS; split
  · rw [progBytes_length]
  · rfl

theorem FS.Still.step {s : FS} (h : s.Still) : s.step.Still ∧ s.goes = false := by
  refine ⟨⟨by simp only [FS.step]; rw [if_pos h.armed], by simp only [FS.step]; rw [if_pos h.armed]; exact h.dead⟩, by unfold FS.goes; rw [if_pos h.armed]⟩
theorem FS.Still.program {s : FS} (h : s.Still) (at_ : Int) (l : List UInt8) :
    (s.program at_ l).2 = ansP s.b.length at_ l ∧ (s.program at_ l).1.b = progS s.b at_ l ∧ (s.program at_ l).1.n = s.n ∧ (s.program at_ l).1.Still := by
  unfold FS.program ansP progS actP
  rw [if_neg (by rw [h.dead]; decide)]
  split
  · exact ⟨rfl, rfl, rfl, h⟩
  · split
    · exact ⟨rfl, rfl, rfl, h⟩
    · split
      · exact ⟨rfl, rfl, rfl, h⟩
      · have k := h.step
        refine ⟨by show toldI s.goes = 0; rw [k.2]; unfold toldI; rfl, ?_, rfl, ⟨k.1.armed, k.1.dead⟩⟩
        show progBytes s.b at_.toNat l s.goes s.keep s.mask = _
        rw [k.2, andBytes_any]; rfl
theorem FS.Still.erase {s : FS} (h : s.Still) (k : Nat) (hk : k < s.n.length) :
    (s.erase k).2 = 0 ∧ (s.erase k).1.b = eraseUpto s.b (512 * k) 512 false 0 0 ∧ (s.erase k).1.n = s.bump k ∧ (s.erase k).1.Still := by
  unfold FS.erase
  rw [if_neg (by rw [h.dead]; decide), if_neg (by unfold blkB; rw [decide_eq_false_iff_not]; omega)]
  have q := h.step
  refine ⟨by show toldI s.goes = 0; rw [q.2]; unfold toldI; rfl, ?_, rfl, ⟨q.1.armed, q.1.dead⟩⟩
  show eraseUpto s.b (512 * k) 512 s.goes s.keep s.mask = _
  rw [q.2, fullErase_any]

theorem and_swap (a b c : UInt8) : a &&& b &&& c = a &&& c &&& b := by rw [UInt8.and_assoc, UInt8.and_comm b c, ← UInt8.and_assoc]
theorem progBytes_comm (b : List UInt8) (A A' : Nat) (l l' : List UInt8) :
    progBytes (progBytes b A l false 0 0) A' l' false 0 0 = progBytes (progBytes b A' l' false 0 0) A l false 0 0 := by
  apply List.ext_getElem?; intro k
  simp only [progBytes_at, Option.map_map, progByte, true_or, if_true]
  congr 1; funext o
  simp only [Function.comp]
  split <;> split <;> (repeat' split) <;> first | rfl | exact and_swap _ _ _
theorem progBytes_twice (b : List UInt8) (A : Nat) (l : List UInt8) :
    progBytes (progBytes b A l false 0 0) A l false 0 0 = progBytes b A l false 0 0 := by
  apply List.ext_getElem?; intro k
  simp only [progBytes_at, Option.map_map, progByte, true_or, if_true]
  congr 1; funext o
  simp only [Function.comp]
  split
  · split
    · rw [UInt8.and_assoc, UInt8.and_self]
    · rfl
  · rfl
theorem progS_twice (b : List UInt8) (at_ : Int) (l : List UInt8) : progS (progS b at_ l) at_ l = progS b at_ l := by
  unfold progS
  by_cases h : actP b.length at_ l = true
  · rw [if_pos h, progBytes_length, if_pos h, progBytes_twice]
  · rw [if_neg h, if_neg h]
theorem progS_comm (b : List UInt8) (a a' : Int) (l l' : List UInt8) : progS (progS b a l) a' l' = progS (progS b a' l') a l := by
  unfold progS
  by_cases h : actP b.length a l = true <;> by_cases h' : actP b.length a' l' = true
  · rw [if_pos h, if_pos h', progBytes_length, progBytes_length, if_pos h, if_pos h', progBytes_comm]
  · rw [if_pos h, if_neg h', progBytes_length, if_neg h', if_pos h]
  · rw [if_neg h, if_pos h', progBytes_length, if_neg h]
  · rw [if_neg h, if_neg h', if_neg h]
theorem eraseUpto_at (b : List UInt8) (base m : Nat) (gone : Bool) (keep : Int) (mask : UInt8) (k : Nat) :
    (eraseUpto b base m gone keep mask)[k]? = (b[k]?).map fun old => if base ≤ k ∧ k < base + m then eraseByte gone keep mask ((k - base) / 64) old else old := by
  simp only [eraseUpto, List.getElem?_mapIdx]
theorem eraseUpto_twice (b : List UInt8) (A m : Nat) : eraseUpto (eraseUpto b A m false 0 0) A m false 0 0 = eraseUpto b A m false 0 0 := by
  apply List.ext_getElem?; intro k
  simp only [eraseUpto_at, Option.map_map, eraseByte, true_or, if_true]
  congr 1; funext o
  simp only [Function.comp]
  split <;> rfl
theorem FS.new_still (l : List UInt8) : (FS.new l).Still := ⟨rfl, rfl⟩
theorem count_two (s s1 s2 : FS) (m : Nat) (hm : 1 ≤ m) (h : s.n = List.replicate m 0) (h1 : s1.n = s.bump 0) (h2 : s2.n = s1.bump 0) : s2.count 0 = 2 := by
  obtain ⟨m, rfl⟩ : ∃ k, m = k + 1 := ⟨m - 1, by omega⟩
  unfold FS.count
  rw [h2, FS.bump, h1, FS.bump, h, if_pos (Int.le_refl 0)]
  simp only [List.replicate_succ, List.getD_cons_zero, List.set_cons_zero, Int.toNat_zero]
  decide +kernel
theorem FS.erase_n (s : FS) (k : Int) : (s.erase k).1.n.length = s.n.length := by
  unfold FS.erase
  (repeat' split) <;> first | rfl | simp only [FS.bump, List.length_set]
end Go.Proofs.YtjednaendedpdaaGreat
namespace Go.Proofs.YtjednaendedpdaaGreat
set_option maxRecDepth 100000
set_option linter.unusedVariables false
open Go Go.RowKit

theorem clone_mid {w W1 : World} {P : Nat} {t : TypeId} {x0 x1 x2 x3 x4 x5 x6 : Value} (hz : W1.heap.size = P + 1) (hG : W1.heap[P]? = some (.cells #[x0, x1, x2, x3, x4, x5, x6] t (0, 0))) (hB : Below P w W1) (A B : Obj) (v u : Value) :
    ∃ W2, W2 = ((((W1.setCell ⟨P, 0, none⟩ v).setCell ⟨P, 1, none⟩ u).alloc A).alloc B).drew ∧ W2.heap[P]? = some (.cells #[v, u, x2, x3, x4, x5, x6] t (0, 0)) ∧ W2.heap[P + 1]? = some A ∧ W2.heap[P + 1 + 1]? = some B ∧ Below P w W2 ∧ W2.heap.size = P + 3 := by
  have z : ((W1.setCell ⟨P, 0, none⟩ v).setCell ⟨P, 1, none⟩ u).heap.size = P + 1 := by simp [hz]
  refine ⟨_, rfl, ?_, ?_, ?_, ?_, ?_⟩
  · show ((((W1.setCell ⟨P, 0, none⟩ v).setCell ⟨P, 1, none⟩ u).alloc A).alloc B).heap[P]? = _
    rw [heap_alloc_old _ _ (by simp [hz]; omega), heap_alloc_old _ _ (by rw [z]; omega), heap_setCell_same _ _ _ _ _ _ (heap_setCell_same _ _ _ _ _ _ hG)]
    rfl
  · show ((((W1.setCell ⟨P, 0, none⟩ v).setCell ⟨P, 1, none⟩ u).alloc A).alloc B).heap[P + 1]? = _
    rw [← z]; exact row_old _ _ _
  · show ((((W1.setCell ⟨P, 0, none⟩ v).setCell ⟨P, 1, none⟩ u).alloc A).alloc B).heap[P + 1 + 1]? = _
    rw [← z]; exact row_new _ _ _
  · exact ((((hB.setCell (p := ⟨P, 0, none⟩) (Nat.le_refl P) v).setCell (p := ⟨P, 1, none⟩) (Nat.le_refl P) u).alloc (by rw [z]; omega) A).alloc (by simp [hz]; omega) B).drew
  · show ((((W1.setCell ⟨P, 0, none⟩ v).setCell ⟨P, 1, none⟩ u).alloc A).alloc B).heap.size = _
    simp [hz]

/-- A row is copied whole into a new one. -/
theorem copy_whole {P : Program} {W : World} {g b n cap : Nat} {e te : TypeId} {dT ty : TypeId} {cur : Array Value} {cs : List Value} (hn : cs.length = n) (hu : P.underlying dT = some (.slice e)) (hs : (P.info? e).map (·.size) = some 1)
    (hg : W.heap[g]? = some (.cells cur te (0, 0))) (hc : cur.size = n) (hsrc : ∀ j v, cs[j]? = some v → W.cell? ⟨b, j, none⟩ = some v) (h1 : ∀ v ∈ cs, v.oneCell' = true) :
    ∃ W', (Builtin.copy_ #[dT, dT] ty #[.slice (some ⟨g, 0, none⟩) n n, .slice (some ⟨b, 0, none⟩) n cap]).run P W = .ok (.int .i64 n) W' ∧ W'.heap[g]? = some (.cells cs.toArray te (0, 0)) ∧ Upd [g] W W' ∧ W'.heap.size = W.heap.size := by
  have h := run_copy_row (P := P) W dT dT ty e g 0 n n ⟨b, 0, none⟩ n cap cur te cs hu hs hg (by simp [hn]) (by
    intro j v hj
    have e : (⟨b, 0, none⟩ : Addr).add j = ⟨b, j, none⟩ := by unfold Addr.add; split <;> simp_all
    rw [e]; exact hsrc j v hj) (by omega) h1
  subst hn
  refine ⟨_, h, ?_, ?_, ?_⟩
  · rw [setRow_heap _ _ _ _ _ _ hg]
    congr 2
    rw [List.take_zero, List.nil_append, List.drop_eq_nil_of_le (by simp; omega), List.append_nil]
  · exact ⟨rfl, rfl, rfl, by simp [World.setRow], fun k hk hn => setRow_other W g k _ (by simpa using hn)⟩
  · simp [World.setRow]

end Go.Proofs.YtjednaendedpdaaGreat
namespace Go.Proofs.YtjednaendedpdaaGreat
set_option maxRecDepth 100000
set_option linter.unusedVariables false
open Go Go.RowKit

/-- How many bytes are 255. -/
def ffs (s : ByteArray) : Nat := Lib.countByte s.data.toList 255
theorem cstr_run (s : ByteArray) (w : World) : (callFunc 109 #[.string s, .int .u8 255]).run Tryz.prog w = .ok (.value (.int .i64 (ffs s))) w := by
  rw [run_callFunc_extern Tryz.func109 (by kernel_rfl) (by kernel_rfl) (by kernel_rfl) (e := Extern.BytealgCount.count) (by kernel_rfl), Lib.run_countString]
  rfl
theorem count1_any (s : ByteArray) (w : World) : Calls Tryz.prog 91 #[.string s, .string ⟨#[255]⟩] w fun e w' => e = .returned (.int .i64 (ffs s)) ∧ w = w' := by
  have hc := cstr_run s
  have h255 : (((⟨#[255]⟩ : ByteArray)[0]'(by decide)).toNat : Int) = 255 := rfl
  go_enter Tryz.func91, Tryz.ntmps91
  go_wp2
  go_ret
  exact ⟨rfl, rfl⟩

/-- A part lies at q: of the flash at p, from block F on, B blocks. -/
structure Pa (w : World) (q p : Nat) (F B : Int) : Prop where
  row : w.heap[q]? = some (.cells #[.pointer (some ⟨p, 0, none⟩), .int .i64 F, .int .i64 B] 102 (0, 0))
theorem Pa.cells {w : World} {q p : Nat} {F B : Int} (h : Pa w q p F B) : w.cell? ⟨q, 0, none⟩ = some (.pointer (some ⟨p, 0, none⟩)) ∧ w.cell? ⟨q, 1, none⟩ = some (.int .i64 F) ∧ w.cell? ⟨q, 2, none⟩ = some (.int .i64 B) := by
  refine ⟨?_, ?_, ?_⟩ <;> (rw [cell_of_row _ _ _ _ _ _ h.row]; rfl)
theorem Pa.lt {w : World} {q p : Nat} {F B : Int} (h : Pa w q p F B) : q < w.heap.size := (Array.getElem?_eq_some_iff.1 h.row).1
theorem Pa.upd {w w' : World} {q p : Nat} {F B : Int} {S : List Nat} (h : Pa w q p F B) (hu : Upd S w w') (hn : q ∉ S) : Pa w' q p F B := ⟨(hu.block _ h.lt hn).trans h.row⟩
/-- The region lies on a flash of n blocks. -/
structure In (n : Nat) (F B : Int) : Prop where
  lo : 0 ≤ F
  some : 1 ≤ B
  hi : F + B ≤ n
  few : n ≤ 256

theorem size_any (q p : Nat) (F B : Int) (n : Nat) (w : World) (h : Pa w q p F B) (hi : In n F B) :
    Calls Tryz.prog 58 #[.pointer (some ⟨q, 0, none⟩)] w fun e w' => e = .returned (.int .i64 (512 * B)) ∧ w = w' := by
  obtain ⟨c0, c1, c2⟩ := h.cells
  have hw : IntKind.i64.wrap (B * 512) = 512 * B := by rw [IntKind.wrap_i64]; have := hi.some; have := hi.hi; have := hi.lo; have := hi.few; omega
  clear c0 c1 hi h
  go_enter Tryz.func58, Tryz.ntmps58
  go_wp2
  go_ret
  exact ⟨rfl, rfl⟩

/-- Do bytes lie on the part? -/
@[irreducible] def inB (B : Int) (at_ n : Int) : Bool := decide (0 ≤ at_ ∧ 0 ≤ n ∧ at_ + n ≤ 512 * B)
theorem inB_iff (B at_ n : Int) : inB B at_ n = true ↔ (0 ≤ at_ ∧ 0 ≤ n ∧ at_ + n ≤ 512 * B) := by unfold inB; simp

set_option maxHeartbeats 1000000 in
theorem place_any (q p : Nat) (F B : Int) (k : Nat) (at_ n : Int) (w : World) (h : Pa w q p F B) (hi : In k F B) (ba : -9223372036854775808 ≤ at_ ∧ at_ ≤ 9223372036854775807) (bn : -9223372036854775808 ≤ n ∧ n ≤ 9223372036854775807) :
    Calls Tryz.prog 59 #[.pointer (some ⟨q, 0, none⟩), .int .i64 at_, .int .i64 n] w fun e w' => (∃ x, e = .returned (.tuple #[.int .i64 x, .bool (inB B at_ n)]) ∧ (inB B at_ n = true → x = 512 * F + at_)) ∧ w = w' := by
  obtain ⟨c0, c1, c2⟩ := h.cells
  have SZ := Box.mk (fun w h => size_any q p F B k w h hi)
  have HP := Box.mk h
  have h1 := hi.lo; have h2 := hi.some; have h3 := hi.hi; have h4 := hi.few
  have hwF : IntKind.i64.wrap (F * 512) = 512 * F := by rw [IntKind.wrap_i64]; omega
  obtain ⟨x, hx⟩ : ∃ x, x = IntKind.i64.wrap (512 * F + at_) := ⟨_, rfl⟩
  have hxw : IntKind.i64.wrap (512 * F + at_) = x := hx.symm
  have HX : Box (inB B at_ n = true → x = 512 * F + at_) := ⟨fun hb => by
    rw [inB_iff] at hb
    rw [hx, IntKind.wrap_i64]; omega⟩
  obtain ⟨S, hS⟩ : ∃ S, S = 512 * B := ⟨_, rfl⟩
  rw [← hS] at SZ
  have hSl : 512 ≤ S ∧ S ≤ 131072 := by omega
  have E0 := inB_iff B at_ n
  rw [← hS] at E0
  clear c0 c2 hx h1 h2 h3 h4 hS h
  generalize inB B at_ n = r at HX E0 ⊢
  by_cases g0 : 0 ≤ at_
  · have g0' : decide (0 ≤ at_) = true := by simpa using g0
    by_cases g1 : 0 ≤ n
    · have g1' : decide (0 ≤ n) = true := by simpa using g1
      by_cases g2 : at_ ≤ S
      · have g2' : decide (at_ ≤ S) = true := by simpa using g2
        have hws : IntKind.i64.wrap (S - at_) = S - at_ := by rw [IntKind.wrap_i64]; omega
        have E : Box (r = decide (n ≤ S - at_)) := ⟨by cases r <;> simp at E0 ⊢ <;> omega⟩
        clear E0
        go_enter Tryz.func59, Tryz.ntmps59
        go_wp2_with fail
        refine (SZ.out _ HP.out).mono ?_
        rintro e w1 ⟨rfl, rfl⟩
        go_wp2_with fail
        refine (SZ.out _ HP.out).mono ?_
        rintro e w1 ⟨rfl, rfl⟩
        go_wp2
        go_ret2
        exact ⟨⟨x, by rw [E.out]; rfl, HX.out⟩, rfl⟩
      · have g2' : decide (at_ ≤ S) = false := by simpa using g2
        have E : Box (r = false) := ⟨by cases r <;> simp at E0 ⊢; omega⟩
        clear E0
        go_enter Tryz.func59, Tryz.ntmps59
        go_wp2_with fail
        refine (SZ.out _ HP.out).mono ?_
        rintro e w1 ⟨rfl, rfl⟩
        go_wp2
        go_ret2
        exact ⟨⟨x, by rw [E.out]; rfl, HX.out⟩, rfl⟩
    · have g1' : decide (0 ≤ n) = false := by simpa using g1
      have E : Box (r = false) := ⟨by cases r <;> simp at E0 ⊢; omega⟩
      clear E0
      go_enter Tryz.func59, Tryz.ntmps59
      go_wp2
      go_ret2
      exact ⟨⟨x, by rw [E.out]; rfl, HX.out⟩, rfl⟩
  · have g0' : decide (0 ≤ at_) = false := by simpa using g0
    have E : Box (r = false) := ⟨by cases r <;> simp at E0 ⊢; omega⟩
    clear E0
    go_enter Tryz.func59, Tryz.ntmps59
    go_wp2
    go_ret2
    exact ⟨⟨x, by rw [E.out]; rfl, HX.out⟩, rfl⟩

/-- What a read answers. -/
def readV (s : FS) (at_ n : Int) : Value := if s.dead then .tuple #[.string ⟨#[]⟩, .int .i64 2] else if onB s.b.length at_ n then .tuple #[.string ⟨((s.b.drop at_.toNat).take n.toNat).toArray⟩, .int .i64 0] else .tuple #[.string ⟨#[]⟩, .int .i64 111]
def preadV (s : FS) (F B : Int) (at_ n : Int) : ByteArray × Int :=
  if inB B at_ n then (if s.dead then (⟨#[]⟩, 2) else (⟨((s.b.drop (512 * F + at_).toNat).take n.toNat).toArray⟩, 0)) else (⟨#[]⟩, 121)
theorem on_in {s : FS} {F B at_ n : Int} (hok : s.Ok) (hi : In s.n.length F B) (hb : inB B at_ n = true) : onB s.b.length (512 * F + at_) n = true := by
  rw [inB_iff] at hb
  unfold onB
  have := hok.len; have := hi.lo; have := hi.hi
  rw [decide_eq_true_eq]; omega
theorem readV_in {s : FS} {F B at_ n : Int} (hok : s.Ok) (hi : In s.n.length F B) (hb : inB B at_ n = true) : readV s (512 * F + at_) n = .tuple #[.string (preadV s F B at_ n).1, .int .i64 (preadV s F B at_ n).2] := by
  unfold readV preadV
  rw [on_in hok hi hb, if_pos rfl, if_pos hb]
  split <;> rfl
theorem pread_any (q p bb cb : Nat) (F B : Int) (s : FS) (at_ n : Int) (w : World) (hf : Fl 89 w p bb cb s) (hok : s.Ok) (h : Pa w q p F B) (hi : In s.n.length F B) (ba : -9223372036854775808 ≤ at_ ∧ at_ ≤ 9223372036854775807) (bn : -9223372036854775808 ≤ n ∧ n ≤ 9223372036854775807) :
    Calls Tryz.prog 27 #[.pointer (some ⟨q, 0, none⟩), .int .i64 at_, .int .i64 n] w fun e w' => e = .returned (.tuple #[.string (preadV s F B at_ n).1, .int .i64 (preadV s F B at_ n).2]) ∧ w = w' := by
  obtain ⟨c0, c1, c2⟩ := h.cells
  have PL := Box.mk (place_any q p F B _ at_ n w h hi ba bn)
  have h1 := hi.lo; have h2 := hi.some; have h3 := hi.hi; have h4 := hi.few
  by_cases hb : inB B at_ n = true
  · have RD := Box.mk (read_any p bb cb s (512 * F + at_) n w hf hok (by rw [inB_iff] at hb; omega) bn)
    rw [show (if s.dead then _ else _ : Value) = readV s (512 * F + at_) n from rfl, readV_in hok hi hb] at RD
    generalize preadV s F B at_ n = V at RD ⊢
    rw [hb] at PL
    clear c1 c2 h1 h2 h3 h4 ba bn hi h hok hf hb
    go_enter Tryz.func27, Tryz.ntmps27
    go_wp2_with fail
    refine PL.out.mono ?_
    rintro e w1 ⟨⟨x, rfl, hx⟩, rfl⟩
    obtain rfl := hx (by simp)
    clear PL
    go_wp2_with fail
    refine RD.out.mono ?_
    rintro e w1 ⟨rfl, rfl⟩
    go_wp2
    go_ret2
    exact ⟨rfl, rfl⟩
  · have hb' : inB B at_ n = false := by simpa using hb
    have E : Box (preadV s F B at_ n = (⟨#[]⟩, 121)) := ⟨by unfold preadV; rw [hb']; rfl⟩
    generalize preadV s F B at_ n = V at E ⊢
    rw [hb'] at PL
    clear c1 c2 h1 h2 h3 h4 ba bn hi h hok hf hb c0 hb'
    obtain ⟨rfl⟩ := E
    go_enter Tryz.func27, Tryz.ntmps27
    go_wp2_with fail
    refine PL.out.mono ?_
    rintro e w1 ⟨⟨x, rfl, hx⟩, rfl⟩
    clear PL hx
    go_wp2
    go_ret2
    exact ⟨rfl, rfl⟩
end Go.Proofs.YtjednaendedpdaaGreat
namespace Go.Proofs.YtjednaendedpdaaGreat
set_option maxRecDepth 100000
set_option linter.unusedVariables false
open Go Go.RowKit

/-- Erase through a part. -/
def FS.perase (s : FS) (F B : Int) (k : Int) : FS × Int := if 0 ≤ k ∧ k < B then s.erase (F + k) else (s, 121)
set_option maxHeartbeats 1000000 in
theorem perase_any (q p bb cb : Nat) (F B : Int) (s : FS) (k : Int) (w : World) (hf : Fl 89 w p bb cb s) (hok : s.Ok) (h : Pa w q p F B) (hi : In s.n.length F B) :
    Calls Tryz.prog 92 #[.pointer (some ⟨q, 0, none⟩), .int .i64 k] w fun e w' => e = .returned (.int .i64 (s.perase F B k).2) ∧ Fl 89 w' p bb cb (s.perase F B k).1 ∧ Upd [p, bb, cb] w w' := by
  obtain ⟨c0, c1, c2⟩ := h.cells
  have HF := Box.mk hf
  by_cases g0 : k < 0
  · have g0' : decide (k < 0) = true := by simpa using g0
    have E : Box (s.perase F B k = (s, 121)) := ⟨by unfold FS.perase; rw [if_neg (by omega)]⟩
    obtain ⟨V, hV⟩ : ∃ V, V = s.perase F B k := ⟨_, rfl⟩
    rw [← hV] at E ⊢
    obtain ⟨rfl⟩ := E
    clear hV c0 c1 hi h hok hf g0
    go_enter Tryz.func92, Tryz.ntmps92
    go_wp2
    go_ret
    exact ⟨rfl, HF.out, Upd.refl _ _⟩
  · have g0' : decide (k < 0) = false := by simpa using g0
    by_cases g1 : k < B
    · have g1' : decide (B ≤ k) = false := by simpa using g1
      have hw : IntKind.i64.wrap (F + k) = F + k := by rw [IntKind.wrap_i64]; have := hi.lo; have := hi.hi; have := hi.few; omega
      have E : Box (s.perase F B k = s.erase (F + k)) := ⟨by unfold FS.perase; rw [if_pos (by omega)]⟩
      have ER := Box.mk (fun w h => erase_any p bb cb s (F + k) w h hok)
      rw [← E.out] at ER
      generalize s.perase F B k = V at ER ⊢
      clear E hi h hok hf g0 g1
      go_enter Tryz.func92, Tryz.ntmps92
      go_wp2
      go_still_tail 11, (by kernel_rfl)
      change wpList _ _ _ _ _ w.drew
      go_wp2_with fail
      refine (ER.out _ (HF.out.upd (Upd.refl [] _).drew (by simp) (by simp) (by simp))).mono ?_
      rintro e w1 ⟨rfl, hf1, hu1⟩
      have HF1 := Box.mk hf1; have HU := Box.mk ((Upd.refl [p, bb, cb] w).drew.trans hu1); clear hf1 hu1
      go_wp2
      go_ret
      exact ⟨rfl, HF1.out, HU.out⟩
    · have g1' : decide (B ≤ k) = true := by simpa using g1
      have E : Box (s.perase F B k = (s, 121)) := ⟨by unfold FS.perase; rw [if_neg (by omega)]⟩
      obtain ⟨V, hV⟩ : ∃ V, V = s.perase F B k := ⟨_, rfl⟩
      rw [← hV] at E ⊢
      obtain ⟨rfl⟩ := E
      clear hV c0 c1 hi h hok hf g0 g1
      go_enter Tryz.func92, Tryz.ntmps92
      go_wp2
      go_ret
      exact ⟨rfl, HF.out, Upd.refl _ _⟩
/-- How often a part's block was erased. -/
def FS.pcount (s : FS) (F B : Int) (k : Int) : Int := if 0 ≤ k ∧ k < B then s.count (F + k) else 0
theorem pdead_any (q p bb cb : Nat) (F B : Int) (s : FS) (w : World) (hf : Fl 89 w p bb cb s) (h : Pa w q p F B) :
    Calls Tryz.prog 50 #[.pointer (some ⟨q, 0, none⟩)] w fun e w' => e = .returned (.bool s.dead) ∧ w = w' := by
  obtain ⟨c0, c1, c2⟩ := h.cells
  have ER := Box.mk (fun w h => dead_any p bb cb s w h)
  have HF := Box.mk hf
  clear c1 c2 h hf
  go_enter Tryz.func50, Tryz.ntmps50
  go_wp2_with fail
  refine (ER.out _ HF.out).mono ?_
  rintro e w1 ⟨rfl, rfl⟩
  go_wp2
  go_ret
  exact ⟨rfl, rfl⟩
/-- Are bytes of a part all 255? -/
def pcleanV (s : FS) (F B : Int) (at_ n : Int) : Bool × Int :=
  if (preadV s F B at_ n).2 = 0 then (((ffs (preadV s F B at_ n).1 : Nat) : Int) == (((preadV s F B at_ n).1.size : Nat) : Int), 0) else (false, (preadV s F B at_ n).2)
theorem pclean_any (q p bb cb : Nat) (F B : Int) (s : FS) (at_ n : Int) (w : World) (hf : Fl 89 w p bb cb s) (hok : s.Ok) (h : Pa w q p F B) (hi : In s.n.length F B) (ba : -9223372036854775808 ≤ at_ ∧ at_ ≤ 9223372036854775807) (bn : -9223372036854775808 ≤ n ∧ n ≤ 9223372036854775807) :
    Calls Tryz.prog 68 #[.pointer (some ⟨q, 0, none⟩), .int .i64 at_, .int .i64 n] w fun e w' => e = .returned (.tuple #[.bool (pcleanV s F B at_ n).1, .int .i64 (pcleanV s F B at_ n).2]) ∧ w = w' := by
  have RD := Box.mk (pread_any q p bb cb F B s at_ n w hf hok h hi ba bn)
  unfold pcleanV
  generalize preadV s F B at_ n = V at RD ⊢
  obtain ⟨S, x⟩ := V
  dsimp only at RD ⊢
  clear ba bn hi h hok hf
  by_cases hx : x = 0
  · subst hx
    rw [if_pos rfl]
    go_enter Tryz.func68, Tryz.ntmps68
    go_wp2_with fail
    refine RD.out.mono ?_
    rintro e w1 ⟨rfl, rfl⟩
    go_wp2_with fail
    refine (count1_any S w).mono ?_
    rintro e w1 ⟨rfl, rfl⟩
    go_wp2
    go_ret2
    exact ⟨rfl, rfl⟩
  · have hxb : (x != 0) = true := by rw [bne_iff_ne]; exact hx
    rw [if_neg hx]
    clear hx
    go_enter Tryz.func68, Tryz.ntmps68
    go_wp2_with fail
    refine RD.out.mono ?_
    rintro e w1 ⟨rfl, rfl⟩
    go_wp2
    go_ret2
    exact ⟨rfl, rfl⟩
end Go.Proofs.YtjednaendedpdaaGreat
namespace Go.Proofs.YtjednaendedpdaaGreat
set_option maxRecDepth 100000
set_option linter.unusedVariables false
open Go Go.RowKit

/-- Write through a part: piece by piece, each in one page. -/
def FS.pw : Nat → FS → Int → List UInt8 → FS × Int
  | 0, s, _, _ => (s, 0)
  | k + 1, s, A, l => if l = [] then (s, 0) else
      let n := min l.length (64 - (A % 64).toNat)
      if (s.program A (l.take n)).2 ≠ 0 then s.program A (l.take n) else FS.pw k (s.program A (l.take n)).1 (A + n) (l.drop n)
def FS.pwrite (s : FS) (F B : Int) (at_ : Int) (l : List UInt8) : FS × Int := if inB B at_ l.length then FS.pw l.length s (512 * F + at_) l else (s, 121)
theorem FS.pw_nil (k : Nat) (s : FS) (A : Int) : FS.pw k s A [] = (s, 0) := by cases k <;> simp [FS.pw]
theorem FS.pw_step (k : Nat) (s : FS) (A : Int) (l : List UInt8) (h : l ≠ []) : FS.pw (k + 1) s A l =
    if (s.program A (l.take (min l.length (64 - (A % 64).toNat)))).2 ≠ 0 then s.program A (l.take (min l.length (64 - (A % 64).toNat)))
    else FS.pw k (s.program A (l.take (min l.length (64 - (A % 64).toNat)))).1 (A + (min l.length (64 - (A % 64).toNat) : Nat)) (l.drop (min l.length (64 - (A % 64).toNat))) := by
  rw [FS.pw, if_neg h]
theorem FS.program_n (s : FS) (A : Int) (l : List UInt8) : (s.program A l).1.n.length = s.n.length := by
  unfold FS.program
  (repeat' split) <;> rfl
set_option maxHeartbeats 2000000 in
theorem pwrite_any (q p bb cb : Nat) (F B : Int) (s : FS) (at_ : Int) (str : ByteArray) (w : World) (hf : Fl 89 w p bb cb s) (hok : s.Ok) (h : Pa w q p F B) (hi : In s.n.length F B) (hqb : q ≠ bb) (hqp : q ≠ p) (ba : -9223372036854775808 ≤ at_ ∧ at_ ≤ 9223372036854775807) (hs : str.size ≤ 9223372036854775807) :
    Calls Tryz.prog 55 #[.pointer (some ⟨q, 0, none⟩), .int .i64 at_, .string str] w fun e w' => e = .returned (.int .i64 (s.pwrite F B at_ str.data.toList).2) ∧ Fl 89 w' p bb cb (s.pwrite F B at_ str.data.toList).1 ∧ Upd [p, bb] w w' := by
  have PL := Box.mk (place_any q p F B _ at_ str.size w h hi ba (by omega))
  have hlen : str.data.toList.length = str.size := by simp
  by_cases hb : inB B at_ str.size = true
  · have hin := hb
    rw [inB_iff] at hin
    rw [hb] at PL
    have E : s.pwrite F B at_ str.data.toList = FS.pw str.size s (512 * F + at_) str.data.toList := by unfold FS.pwrite; rw [hlen, hb, if_pos rfl]
    rw [E]
    obtain ⟨R, hR⟩ : ∃ R, R = FS.pw str.size s (512 * F + at_) str.data.toList := ⟨_, rfl⟩
    rw [← hR]
    have HR := Box.mk hR; have HF := Box.mk hf; have HP := Box.mk h; have HOK := Box.mk hok; have HI := Box.mk hi; have HIN := Box.mk hin
    clear E hb hlen hR hf h hok hi hin hs ba
    go_enter Tryz.func55, Tryz.ntmps55
    go_wp2_with fail
    refine PL.out.mono ?_
    rintro e w1 ⟨⟨x, rfl, hx⟩, rfl⟩
    obtain rfl := hx (by simp)
    clear PL
    go_wp2_with fail
    have HU0 : Box (Upd [p, bb] w w) := ⟨Upd.refl _ _⟩
    have hk0 := Box.mk (show In s.n.length F B from HI.out)
    obtain ⟨w0, hw0⟩ : ∃ w0 : World, w0 = w := ⟨_, rfl⟩
    go_loopw [2, 7] (fun x y wr => ∃ (t : ByteArray) (s' : FS) (A : Int) (k : Nat), x = .string t ∧ y = .int .i64 A ∧ t.size ≤ k ∧ FS.pw k s' A t.data.toList = R ∧ Fl 89 wr p bb cb s' ∧ s'.Ok ∧ s'.n.length = s.n.length ∧ 0 ≤ A ∧ A + t.size ≤ 131072 ∧ Upd [p, bb] w wr) (fun x _ _ => match x with | .string t => t.size | _ => 0)
    case atStart => exact ⟨str, s, _, str.size, rfl, rfl, Nat.le_refl _, HR.out.symm, HF.out, HOK.out, rfl, by have := HI.out.lo; have := HIN.out; omega, by have := HI.out.hi; have := HI.out.few; have := HIN.out; omega, Upd.refl _ _⟩
    case round =>
      clear HF HOK HR HU0 hk0
      obtain ⟨t, s', A, k, rfl, rfl, hk, hpw, hf, hok, hn, hA, hA2, hu⟩ := hrel
      have HF := Box.mk hf; have HU := Box.mk hu; have HOK := Box.mk hok
      obtain ⟨c0, _, _⟩ := (HP.out.upd hu (by simp [hqp, hqb])).cells
      clear hf hu hok
      by_cases ht : t.size = 0
      · have hte : t.toList.isEmpty = true := by
          have : t.toList = t.data.toList := ByteArray.toList_eq t
          rw [this, List.isEmpty_iff_length_eq_zero]; simpa using ht
        have htl : t.data.toList = [] := List.eq_nil_of_length_eq_zero (by simpa using ht)
        rw [htl, FS.pw_nil] at hpw
        have HR := Box.mk hpw
        clear hpw htl ht hn hk hA hA2 c0
        go_wp2_with fail
        go_ret
        obtain ⟨rfl⟩ := HR
        exact ⟨rfl, HF.out, HU.out⟩
      · have hte : t.toList.isEmpty = false := by
          have : t.toList = t.data.toList := ByteArray.toList_eq t
          rw [this, Bool.eq_false_iff, ne_eq, List.isEmpty_iff_length_eq_zero]; simpa using ht
        obtain ⟨k', rfl⟩ : ∃ k', k = k' + 1 := ⟨k - 1, by omega⟩
        obtain ⟨m, hm⟩ : ∃ m, m = min t.size (64 - (A % 64).toNat) := ⟨_, rfl⟩
        have hll : t.data.toList.length = t.size := by simp
        have hm1 : 1 ≤ m ∧ m ≤ t.size := by omega
        rw [FS.pw_step _ _ _ _ (by intro h; rw [h] at hll; simp at hll; omega), hll, ← hm] at hpw
        have hul : (t.extract 0 m).data.toList = t.data.toList.take m := by simp [ByteArray.data_extract, List.extract_eq_take_drop]
        have hvl : (t.extract m t.size).data.toList = t.data.toList.drop m := by
          rw [ByteArray.data_extract, Array.toList_extract, List.extract_eq_take_drop, List.take_of_length_le (by rw [List.length_drop, hll]; exact Nat.le_refl _)]
        rw [← hul, ← hvl] at hpw
        have hus : (t.extract 0 m).size = m := by rw [ByteArray.size_extract]; omega
        have hvs : (t.extract m t.size).size = t.size - m := by rw [ByteArray.size_extract]; omega
        have PR := Box.mk (fun w h => program_any p bb cb s' A (t.extract 0 m) w h HOK.out (by omega) (by omega))
        have OK2 := Box.mk (FS.program_ok HOK.out A (t.extract 0 m).data.toList)
        have N2 := Box.mk (FS.program_n s' A (t.extract 0 m).data.toList)
        have HMM := Box.mk hm
        have HVS := Box.mk hvs
        generalize s'.program A (t.extract 0 m).data.toList = r at PR OK2 N2 hpw
        clear hul hvl hus hvs hm
        go_upto_region 5 with (fail)
        go_cut [9] (fun v wx => v = .int .i64 (m : Nat) ∧ wr = wx)
        case first =>
          by_cases hc : (t.size : Int) ≤ 64 - A % 64
          · have HE := Box.mk (show m = t.size by have := HMM.out; omega)
            go_wp2_with fail
            go_meet
            exact ⟨by rw [HE.out], rfl⟩
          · have HE := Box.mk (show 64 - A % 64 = (m : Int) by have := HMM.out; omega)
            go_wp2_with fail
            go_meet
            exact ⟨by rw [HE.out], rfl⟩
        case rest =>
          obtain ⟨rfl, rfl⟩ := hcut
          have hmI : (m : Int) ≤ (t.size : Int) := by omega
          go_upto_region 6 with (fail)
          go_still_tail 8, (by kernel_rfl)
          change wpList _ _ _ _ _ wr.drew
          go_wp2_with fail
          refine (PR.out _ (HF.out.upd (Upd.refl [] _).drew (by simp) (by simp) (by simp))).mono ?_
          rintro e w2 ⟨rfl, hf2, hu2⟩
          have HF2 := Box.mk hf2; have HU2 := Box.mk ((HU.out.trans (Upd.refl [p, bb] wr).drew).trans hu2); clear hf2 hu2
          obtain ⟨r1, r2⟩ := r
          dsimp only at PR OK2 N2 hpw HF2 ⊢
          by_cases hr : r2 = 0
          · rw [if_neg (by simpa using hr)] at hpw
            have hrb : (r2 != 0) = false := by simpa using hr
            have HPW := Box.mk hpw
            have hwA : IntKind.i64.wrap (A + (m : Int)) = A + (m : Int) := by rw [IntKind.wrap_i64]; omega
            clear hpw hr PR
            go_wp2_with fail
            go_quiet (fail)
            go_wp2_with fail
            refine ⟨⟨t.extract m t.size, r1, A + m, k', rfl, rfl, by rw [HVS.out]; omega, HPW.out, HF2.out.upd ((Upd.refl [] _).drewN _) (by simp) (by simp) (by simp), OK2.out, by rw [N2.out]; exact hn, by omega, by rw [HVS.out]; omega, HU2.out.drewN _⟩, by show (t.extract m t.size).size < t.size; rw [HVS.out]; omega⟩
          · rw [if_pos (by simpa using hr)] at hpw
            have hrb : (r2 != 0) = true := by rw [bne_iff_ne]; exact hr
            have HPW := Box.mk hpw
            clear hpw hr PR
            go_wp2_with fail
            go_ret
            obtain ⟨rfl⟩ := HPW
            exact ⟨rfl, HF2.out, HU2.out⟩
  · have hb' : inB B at_ str.size = false := by simpa using hb
    have E : Box (s.pwrite F B at_ str.data.toList = (s, 121)) := ⟨by unfold FS.pwrite; rw [hlen, hb']; rfl⟩
    obtain ⟨R, hR⟩ : ∃ R, R = s.pwrite F B at_ str.data.toList := ⟨_, rfl⟩
    rw [← hR] at E ⊢
    obtain ⟨rfl⟩ := E
    have HF := Box.mk hf
    rw [hb'] at PL
    clear hR hlen hf h hok hi hs ba hb hb'
    go_enter Tryz.func55, Tryz.ntmps55
    go_wp2_with fail
    refine PL.out.mono ?_
    rintro e w1 ⟨⟨x, rfl, hx⟩, rfl⟩
    clear PL hx
    go_wp2_with fail
    go_ret
    exact ⟨rfl, HF.out, Upd.refl _ _⟩
end Go.Proofs.YtjednaendedpdaaGreat
namespace Go.Proofs.YtjednaendedpdaaGreat
set_option maxRecDepth 100000
set_option linter.unusedVariables false
open Go Go.RowKit

theorem belD {B : Nat} {a w : World} (h : Below B a w) (n : Nat) : Below B a (w.drewN n) := ⟨h.os, h.tape, h.output, h.size, h.block⟩
set_option maxHeartbeats 2000000 in
theorem pnew_yes (p bb cb : Nat) (F B : Int) (s : FS) (w : World) (hf : Fl 89 w p bb cb s) (hi : In s.n.length F B) :
    Calls Tryz.prog 25 #[.pointer (some ⟨p, 0, none⟩), .agg #[.int .i64 F, .int .i64 B]] w fun e w' => ∃ q, e = .returned (.tuple #[.pointer (some ⟨q, 0, none⟩), .int .i64 0]) ∧ Pa w' q p F B ∧ w.heap.size ≤ q ∧ Below w.heap.size w w' := by
  have h1 : decide (F < 0) = false := by rw [decide_eq_false_iff_not]; have := hi.lo; omega
  have h2 : decide (B < 1) = false := by rw [decide_eq_false_iff_not]; have := hi.some; omega
  obtain ⟨n, hn⟩ : ∃ n, n = s.n.length := ⟨_, rfl⟩
  have h3 : decide ((n : Int) < F) = false := by rw [decide_eq_false_iff_not]; have := hi.hi; have := hi.some; omega
  have hw : IntKind.i64.wrap ((n : Int) - F) = (n : Int) - F := by rw [IntKind.wrap_i64]; have := hi.hi; have := hi.lo; have := hi.few; have := hi.some; omega
  have h4 : decide ((n : Int) - F < B) = false := by rw [decide_eq_false_iff_not]; have := hi.hi; omega
  obtain ⟨w1, hw1⟩ : ∃ w1, w1 = w.alloc (.cells #[.int .i64 F, .int .i64 B] 36) := ⟨_, rfl⟩
  have hb1 : Below w.heap.size w w1 := by rw [hw1]; exact (Below.refl _ _).alloc (Nat.le_refl _) _
  have r1 : w1.heap[w.heap.size]? = some (.cells #[.int .i64 F, .int .i64 B] 36 (0, 0)) := by rw [hw1]; exact heap_alloc_new _ _
  have c0 : w1.cell? ⟨w.heap.size, 0, none⟩ = some (.int .i64 F) := (cell_of_row _ _ _ _ _ _ r1).trans rfl
  have c1 : w1.cell? ⟨w.heap.size, 1, none⟩ = some (.int .i64 B) := (cell_of_row _ _ _ _ _ _ r1).trans rfl
  have BL := Box.mk (fun k => blocks_any p bb cb s (w1.drewN k) (((hf.upd (Upd.of_below hb1) (S := []) (by simp) (by simp) (by simp))).upd ((Upd.refl [] _).drewN k) (by simp) (by simp) (by simp)))
  rw [← hn] at BL
  have B1 := Box.mk hb1
  clear hn hf hi r1 hb1
  go_enter Tryz.func25, Tryz.ntmps25
  go_upto_region 1 with (fail)
  rw [← hw1]
  clear hw1
  go_quiet ((go_at_call 57; exact quiet_calls (BL.out _)))
  have C0 : (w1.drewN nq).cell? ⟨w.heap.size, 0, none⟩ = some (.int .i64 F) := c0
  have C1 : (w1.drewN nq).cell? ⟨w.heap.size, 1, none⟩ = some (.int .i64 B) := c1
  have B2 := Box.mk (belD B1.out nq)
  clear c0 c1 BL B1
  generalize w1.drewN nq = w2 at C0 C1 B2 ⊢
  go_wp2_with fail
  go_ret2
  exact ⟨w2.heap.size, rfl, ⟨heap_alloc_new _ _⟩, B2.out.size, B2.out.alloc B2.out.size _⟩
set_option maxHeartbeats 2000000 in
theorem pnew_no (p bb cb : Nat) (F B : Int) (s : FS) (w : World) (hf : Fl 89 w p bb cb s) (hok : s.Ok) (hi : ¬ In s.n.length F B) (bF : -9223372036854775808 ≤ F ∧ F ≤ 9223372036854775807) :
    Calls Tryz.prog 25 #[.pointer (some ⟨p, 0, none⟩), .agg #[.int .i64 F, .int .i64 B]] w fun e w' => e = .returned (.tuple #[.pointer none, .int .i64 120]) ∧ Below w.heap.size w w' := by
  have hfew := hok.few
  obtain ⟨n, hn⟩ : ∃ n, n = s.n.length := ⟨_, rfl⟩
  have hi' : ¬ (0 ≤ F ∧ 1 ≤ B ∧ F + B ≤ (n : Int)) := fun ⟨a, b, c⟩ => hi ⟨a, b, by rw [← hn]; exact c, hfew.2⟩
  rw [← hn] at hfew
  obtain ⟨w1, hw1⟩ : ∃ w1, w1 = w.alloc (.cells #[.int .i64 F, .int .i64 B] 36) := ⟨_, rfl⟩
  have hb1 : Below w.heap.size w w1 := by rw [hw1]; exact (Below.refl _ _).alloc (Nat.le_refl _) _
  have r1 : w1.heap[w.heap.size]? = some (.cells #[.int .i64 F, .int .i64 B] 36 (0, 0)) := by rw [hw1]; exact heap_alloc_new _ _
  have c0 : w1.cell? ⟨w.heap.size, 0, none⟩ = some (.int .i64 F) := (cell_of_row _ _ _ _ _ _ r1).trans rfl
  have c1 : w1.cell? ⟨w.heap.size, 1, none⟩ = some (.int .i64 B) := (cell_of_row _ _ _ _ _ _ r1).trans rfl
  have BL := Box.mk (fun k => blocks_any p bb cb s (w1.drewN k) (((hf.upd (Upd.of_below hb1) (S := []) (by simp) (by simp) (by simp))).upd ((Upd.refl [] _).drewN k) (by simp) (by simp) (by simp)))
  rw [← hn] at BL
  have B1 := Box.mk hb1
  clear hn hf hi r1 hb1 hok
  by_cases g1 : F < 0
  · have h1 : decide (F < 0) = true := by simpa using g1
    clear hi' g1
    go_enter Tryz.func25, Tryz.ntmps25
    go_upto_region 1 with (fail)
    rw [← hw1]
    clear hw1
    go_quiet ((go_at_call 57; exact quiet_calls (BL.out _)))
    have B2 := Box.mk (belD B1.out nq)
    clear c0 c1 BL B1
    go_wp2_with fail
    go_ret2
    exact ⟨rfl, B2.out⟩
  · have h1 : decide (F < 0) = false := by simpa using g1
    by_cases g2 : B < 1
    · have h2 : decide (B < 1) = true := by simpa using g2
      clear hi' g1 g2
      go_enter Tryz.func25, Tryz.ntmps25
      go_upto_region 1 with (fail)
      rw [← hw1]
      clear hw1
      go_quiet ((go_at_call 57; exact quiet_calls (BL.out _)))
      have B2 := Box.mk (belD B1.out nq)
      clear c0 c1 BL B1
      go_wp2_with fail
      go_ret2
      exact ⟨rfl, B2.out⟩
    · have h2 : decide (B < 1) = false := by simpa using g2
      by_cases g3 : (n : Int) < F
      · have h3 : decide ((n : Int) < F) = true := by simpa using g3
        clear hi' g1 g2 g3
        go_enter Tryz.func25, Tryz.ntmps25
        go_upto_region 1 with (fail)
        rw [← hw1]
        clear hw1
        go_quiet ((go_at_call 57; exact quiet_calls (BL.out _)))
        have B2 := Box.mk (belD B1.out nq)
        clear c0 c1 BL B1
        go_wp2_with fail
        go_ret2
        exact ⟨rfl, B2.out⟩
      · have h3 : decide ((n : Int) < F) = false := by simpa using g3
        have hw : IntKind.i64.wrap ((n : Int) - F) = (n : Int) - F := by rw [IntKind.wrap_i64]; omega
        have h4 : decide ((n : Int) - F < B) = true := by rw [decide_eq_true_eq]; omega
        clear hi' g1 g2 g3
        go_enter Tryz.func25, Tryz.ntmps25
        go_upto_region 1 with (fail)
        rw [← hw1]
        clear hw1
        go_quiet ((go_at_call 57; exact quiet_calls (BL.out _)))
        have B2 := Box.mk (belD B1.out nq)
        clear c0 c1 BL B1
        go_wp2_with fail
        go_ret2
        exact ⟨rfl, B2.out⟩
end Go.Proofs.YtjednaendedpdaaGreat
