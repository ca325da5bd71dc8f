/- The flash: one is made. The flash: bytes.Repeat at one byte. The flash: New; fit. The flash: the calls whose answers the document fixes. The flash: what a flash does of which no step is torn: plain laws. The flash: Clone. -/
import Derived.Test.YtjednaendedpdaaGreatM01
import Derived.Lib.ConvBytes
import Derived.Lib.MakeNoZero
import Derived.Laws.CopyOwn
import Derived.Laws.Externs
import Derived.Shelf.Bits.Mul64
namespace Go.Proofs.YtjednaendedpdaaGreat
set_option maxRecDepth 100000
set_option linter.unusedVariables false
open Go Go.RowKit

theorem info_int : (Tryz.prog.info? 3).map (fun i => (i.zero, i.size, i.bytes)) = some (some (.int .i64 0), 1, 8) := by kernel_rfl
theorem info_u8 : (Tryz.prog.info? 5).map (fun i => (i.zero, i.size, i.bytes)) = some (some (.int .u8 0), 1, 1) := by kernel_rfl
theorem made_one (z : Value) (hz : z.cells = #[z]) (m : Nat) : madeCells z.cells (m * 1) = Array.replicate m z := by
  rw [hz, Nat.mul_one]
  apply Array.ext
  · simp [madeCells]
  · intro i h1 h2
    simp [madeCells, Nat.mod_one]
theorem make_ints (m : Nat) (x : Int) (hx : x = m) (hm : m ≤ 1000000) (w : World) :
    (Instr.makeSlice 64 (.int .i64 x) (.int .i64 x)).run Tryz.prog w = .ok (.slice (some ⟨w.heap.size, 0, none⟩) m m) (w.alloc (.cells (Array.replicate m (.int .i64 0)) 3)) := by
  subst hx
  obtain ⟨i0, hi, hz0, hz1, hz2⟩ := info_parts info_int
  have h := run_make (P := Tryz.prog) w 64 3 i0 (.int .i64 0) Tryz.underlying64 hi hz0 .i64 .i64 m m (by omega) (by omega) (by rw [hz2]; omega) (by omega)
  rw [h, hz1, Int.toNat_natCast, made_one _ rfl]
theorem make_bytes (m : Nat) (x : Int) (hx : x = m) (hm : m ≤ 1000000) (w : World) :
    (Instr.makeSlice 22 (.int .i64 x) (.int .i64 x)).run Tryz.prog w = .ok (.slice (some ⟨w.heap.size, 0, none⟩) m m) (w.alloc (.cells (Array.replicate m (.int .u8 0)) 5)) := by
  subst hx
  obtain ⟨i0, hi, hz0, hz1, hz2⟩ := info_parts info_u8
  have h := run_make (P := Tryz.prog) w 22 5 i0 (.int .u8 0) Tryz.underlying22 hi hz0 .i64 .i64 m m (by omega) (by omega) (by rw [hz2]; omega) (by omega)
  rw [h, hz1, Int.toNat_natCast, made_one _ rfl]

/-- A new flash's state. -/
def FS.new (l : List UInt8) : FS := { b := l, n := List.replicate (l.length / 512) 0, steps := 0, armed := 0, keep := 0, mask := 0, dead := false }
@[irreducible] def sizeB (n : Nat) : Bool := decide (1 ≤ n / 512 ∧ n / 512 ≤ 256 ∧ n % 512 = 0)
theorem FS.new_ok {l : List UInt8} (h : sizeB l.length = true) : (FS.new l).Ok := by
  unfold sizeB at h
  have h := of_decide_eq_true h
  exact ⟨by simp [FS.new], by simp [FS.new], by simp only [FS.new, List.length_replicate]; omega, by simp only [FS.new, List.length_replicate]; omega⟩

theorem row_old (W : World) (A B : Obj) : ((W.alloc A).alloc B).heap[W.heap.size]? = some A := by
  rw [heap_alloc_old _ _ (by simp), heap_alloc_new]
theorem row_new (W : World) (A B : Obj) : ((W.alloc A).alloc B).heap[W.heap.size + 1]? = some B := by
  have := heap_alloc_new (W.alloc A) B
  rwa [World.size_alloc] at this

/-- Bytes in a row of the call's own. -/
def BRow (w : World) (bb : Nat) (l : List UInt8) : Prop := ∃ sp fr, w.heap[bb]? = some (.cells (l.map bval ++ sp).toArray 5 fr) ∧ (fr = (0, 0) ∨ l.length ≤ fr.1)

/-- What making a flash answers: a new one, of these bytes; at bytes bb. -/
def MadeAt (t : TypeId) (w : World) (bb : Nat) (l : List UInt8) (e : Ending) (w' : World) : Prop :=
  ∃ p cb, e = .returned (.tuple #[.pointer (some ⟨p, 0, none⟩), .int .i64 0]) ∧ Fl t w' p bb cb (FS.new l) ∧ w.heap.size ≤ p ∧ w.heap.size ≤ cb ∧ Below w.heap.size w w'
def Made (t : TypeId) (w : World) (l : List UInt8) (e : Ending) (w' : World) : Prop :=
  ∃ p bb cb, e = .returned (.tuple #[.pointer (some ⟨p, 0, none⟩), .int .i64 0]) ∧ Fl t w' p bb cb (FS.new l) ∧ w.heap.size ≤ p ∧ w.heap.size ≤ bb ∧ w.heap.size ≤ cb ∧ Below w.heap.size w w'

set_option maxHeartbeats 1000000 in
theorem of_yes (bb cap : Nat) (l : List UInt8) (n : Nat) (hn : l.length = n) (w : World) (h : BRow w bb l) (hcap : n ≤ cap) (hl : n ≤ 1000000) (hs : sizeB n = true) :
    Calls Tryz.prog 24 #[.slice (some ⟨bb, 0, none⟩) n cap] w (MadeAt 89 w bb l) := by
  have hs' : 1 ≤ n / 512 ∧ n / 512 ≤ 256 ∧ n % 512 = 0 := by unfold sizeB at hs; exact of_decide_eq_true hs
  have hmk := fun w => make_ints (n / 512) ((n : Int) / 512) (by omega) (by omega) w
  have h1 : ¬ (n : Int) / 512 < 1 := by omega
  have h2 : ¬ (256 : Int) < (n : Int) / 512 := by omega
  have h3 : ((n : Int) % 512 != 0) = false := by rw [bne_eq_false_iff_eq]; omega
  clear hs hs'
  have HR := Box.mk h; clear h
  have HN := Box.mk hn; clear hn
  go_enter Tryz.func24, Tryz.ntmps24
  go_wp2
  go_ret2
  refine ⟨w.heap.size + 1, w.heap.size, rfl, ?_, by omega, by omega, by go_grown⟩
  obtain ⟨sp, fr, hb, hfr⟩ := HR.out
  have hlt := (Array.getElem?_eq_some_iff.1 hb).1
  refine ⟨⟨cap, n / 512, by show l.length ≤ cap; rw [HN.out]; exact hcap, by simp [FS.new, HN.out], ?_⟩, ⟨sp, fr, ?_, hfr⟩, ⟨[], ?_⟩, by omega, by omega, by omega⟩
  · rw [row_new]; simp [FS.new, HN.out]
  · rw [heap_alloc_old _ _ (by simp; omega), heap_alloc_old _ _ hlt]; exact hb
  · rw [row_old]; simp [FS.new, HN.out, nval]

set_option maxHeartbeats 1000000 in
theorem of_no (bb : Option Addr) (n cap : Nat) (w : World) (hl : n ≤ 1000000) (hs : sizeB n = false) :
    Calls Tryz.prog 24 #[.slice bb n cap] w fun e w' => e = .returned (.tuple #[.pointer none, .int .i64 110]) ∧ w = w' := by
  have hs' : ¬ (1 ≤ n / 512 ∧ n / 512 ≤ 256 ∧ n % 512 = 0) := by unfold sizeB at hs; exact of_decide_eq_false hs
  have HS := Box.mk hs'; clear hs hs'
  by_cases h1 : (n : Int) / 512 < 1
  · have h1' : decide ((n : Int) / 512 < 1) = true := by simpa using h1
    go_enter Tryz.func24, Tryz.ntmps24
    go_wp2
    go_ret2
    exact ⟨rfl, rfl⟩
  · have h1' : decide ((n : Int) / 512 < 1) = false := by simpa using h1
    by_cases h2 : (256 : Int) < (n : Int) / 512
    · have h2' : decide ((256 : Int) < (n : Int) / 512) = true := by simpa using h2
      go_enter Tryz.func24, Tryz.ntmps24
      go_wp2
      go_ret2
      exact ⟨rfl, rfl⟩
    · have h2' : decide ((256 : Int) < (n : Int) / 512) = false := by simpa using h2
      have h3 : ((n : Int) % 512 != 0) = true := by rw [bne_iff_ne]; have := HS.out; omega
      go_enter Tryz.func24, Tryz.ntmps24
      go_wp2
      go_ret2
      exact ⟨rfl, rfl⟩

theorem bytesWorld_row (w : World) (s : ByteArray) : BRow (Lib.bytesWorld w 5 s) w.heap.size s.data.toList := by
  refine ⟨List.replicate (grownCap w s.size 0 5 - s.size) (.int .u8 0), ((Lib.bytesCells w 5 s).size, (Lib.bytesCells w 5 s).size + 1), ?_, ?_⟩
  · rw [Lib.bytesWorld_at_new]
    congr 2
    simp [Lib.bytesCells, bval]
  · right; simp [Lib.bytesCells]
theorem bytesWorld_below (w : World) (s : ByteArray) : Below w.heap.size w (Lib.bytesWorld w 5 s) :=
  ⟨rfl, rfl, rfl, by rw [Lib.bytesWorld_size]; omega, fun k hk => Lib.bytesWorld_at_old w 5 s k hk⟩

set_option maxHeartbeats 1000000 in
theorem open_yes (s : ByteArray) (w : World) (hs : sizeB s.size = true) :
    Calls Tryz.prog 5 #[.string s] w (Made 89 w s.data.toList) := by
  have hs' : 1 ≤ s.size / 512 ∧ s.size / 512 ≤ 256 ∧ s.size % 512 = 0 := by unfold sizeB at hs; exact of_decide_eq_true hs
  have hcv := fun w => Lib.run_convert_string_bytes (P := Tryz.prog) w 9 22 5 s Tryz.underlying9 Tryz.underlying22 Tryz.underlying5
  have h0 : ¬ (131072 : Int) < (s.size : Int) := by omega
  have HS := Box.mk hs; clear hs
  go_enter Tryz.func5, Tryz.ntmps5
  go_wp2_with fail
  refine (of_yes w.heap.size (grownCap w s.size 0 5) s.data.toList s.size (by simp) _ (bytesWorld_row w s) (grownCap_ge w _ _ _) (by omega) HS.out).mono ?_
  rintro e w1 ⟨p, cb, rfl, hf, h1, h2, hb⟩
  have hb0 := bytesWorld_below w s
  have hz := hb0.size
  go_wp2
  go_ret2
  exact ⟨p, w.heap.size, cb, rfl, hf, by omega, by omega, by omega, hb0.trans (hb.mono hz)⟩

set_option maxHeartbeats 1000000 in
theorem open_no (s : ByteArray) (w : World) (hs : sizeB s.size = false) :
    Calls Tryz.prog 5 #[.string s] w fun e w' => e = .returned (.tuple #[.pointer none, .int .i64 110]) ∧ Below w.heap.size w w' := by
  by_cases h0 : (131072 : Int) < (s.size : Int)
  · clear hs
    go_enter Tryz.func5, Tryz.ntmps5
    go_wp2
    go_ret2
    exact ⟨rfl, Below.refl _ _⟩
  · have hcv := fun w => Lib.run_convert_string_bytes (P := Tryz.prog) w 9 22 5 s Tryz.underlying9 Tryz.underlying22 Tryz.underlying5
    have HS := Box.mk hs; clear hs
    go_enter Tryz.func5, Tryz.ntmps5
    go_wp2_with fail
    refine (of_no _ s.size _ _ (by omega) HS.out).mono ?_
    rintro e w1 ⟨rfl, rfl⟩
    have hb0 := bytesWorld_below w s
    go_wp2
    go_ret2
    exact ⟨rfl, hb0⟩
end Go.Proofs.YtjednaendedpdaaGreat
namespace Go.Proofs.YtjednaendedpdaaGreat
set_option maxRecDepth 100000
set_option linter.unusedVariables false
open Go Go.RowKit

theorem mul64_any (x y : Nat) (hx : x < 18446744073709551616) (hy : y < 18446744073709551616) (w : World) :
    Calls Tryz.prog 104 #[.int .u64 x, .int .u64 y] w fun e w' => e = .returned (.tuple #[.int .u64 ((x * y / 18446744073709551616 : Nat) : Int), .int .u64 ((x * y % 18446744073709551616 : Nat) : Int)]) ∧ w' = w := by
  obtain ⟨bd, bt, bw, hhi⟩ := Lib.mul64_hi x y hx hy
  have ba := Lib.half_mul_le (a := x / 4294967296) (b := y / 4294967296) (by omega) (by omega)
  have bb := Lib.half_mul_le (a := x / 4294967296) (b := y % 4294967296) (by omega) (by omega)
  have bc := Lib.half_mul_le (a := x % 4294967296) (b := y / 4294967296) (by omega) (by omega)
  have b1 : x / 4294967296 * (y / 4294967296) < 18446744073709551616 := by omega
  have b2 : x / 4294967296 * (y % 4294967296) < 18446744073709551616 := by omega
  have b3 : x % 4294967296 * (y / 4294967296) < 18446744073709551616 := by omega
  have b4 : x / 4294967296 * (y / 4294967296) + (x / 4294967296 * (y % 4294967296) + x % 4294967296 * (y % 4294967296) / 4294967296) / 4294967296 < 18446744073709551616 := by omega
  have b5 : x / 4294967296 * (y / 4294967296) + (x / 4294967296 * (y % 4294967296) + x % 4294967296 * (y % 4294967296) / 4294967296) / 4294967296 + ((x / 4294967296 * (y % 4294967296) + x % 4294967296 * (y % 4294967296) / 4294967296) % 4294967296 + x % 4294967296 * (y / 4294967296)) / 4294967296 < 18446744073709551616 := by omega
  go_enter Tryz.func104, Tryz.ntmps104
  go_wp2
  simp only [Mul64.maskN x hx, Mul64.maskN y hy, Mul64.divN, Mul64.mulN, Mul64.addN, Mul64.wrapN _ bd, Mul64.wrapN _ b2, Mul64.wrapN _ bt, Mul64.maskN _ bt, Mul64.wrapN _ b3, Mul64.wrapN _ bw, Mul64.wrapN _ b1, Mul64.wrapN _ b4, Mul64.wrapN _ b5, Mul64.wrapM (x * y)]
  rw [hhi]
  go_ret2
  exact ⟨rfl, rfl⟩

theorem mul_one (y : Nat) (hy : y < 18446744073709551616) (w : World) :
    Calls Tryz.prog 82 #[.int .u64 1, .int .u64 y] w fun e w' => e = .returned (.tuple #[.int .u64 0, .int .u64 y]) ∧ w' = w := by
  have e1 : ((1 * y / 18446744073709551616 : Nat) : Int) = 0 := by omega
  have e2 : ((1 * y % 18446744073709551616 : Nat) : Int) = y := by omega
  have h := mul64_any 1 y (by omega) hy
  rw [e1, e2] at h
  go_enter Tryz.func82, Tryz.ntmps82
  go_wp2_with fail
  refine (h _).mono ?_
  rintro e w1 ⟨rfl, rfl⟩
  go_wp2
  go_ret2
  exact ⟨rfl, rfl⟩

theorem nozero_any (n : Nat) (hn : n ≤ 281474976710656) (w : World) :
    ∃ cs : Array Value, (callFunc 97 #[.int .i64 n]).run Tryz.prog w = .ok (.value (.slice (some ⟨w.heap.size, 0, none⟩) n cs.size)) (w.drew.drew.alloc (.cells cs 5)) ∧ n ≤ cs.size := by
  obtain ⟨cs, h, hc, _⟩ := Lib.run_makeNoZero (P := Tryz.prog) w #[] 22 5 Tryz.underlying22 n hn
  refine ⟨cs, ?_, hc⟩
  rw [run_callFunc_extern (e := Extern.BytealgMakeNoZero.makeNoZero #[] #[22]) Tryz.func97 (by kernel_rfl) (by kernel_rfl) (by kernel_rfl) (by kernel_rfl), h]
  rfl

/-- What holds at the head of Repeat's loop. -/
structure RepSt (w : World) (g C : Nat) (k : Nat) (wr : World) : Prop where
  row : ∃ L : List Value, wr.heap[g]? = some (.cells (List.replicate k (bval 255) ++ L).toArray 5 (0, 0)) ∧ k + L.length = C
  below : Below w.heap.size w wr

theorem repeat_first (p n : Nat) (w : World) (cs : Array Value) (hn : 1 ≤ n) (hcs : n ≤ cs.size) (hp : w.cell? ⟨p, 0, none⟩ = some (bval 255)) (hpl : p < w.heap.size) :
    ∃ W1, (Builtin.copy_ #[22, 22] 3 #[.slice (some ⟨w.heap.size, 0, none⟩) n n, .slice (some ⟨p, 0, none⟩) 1 1]).run Tryz.prog (w.alloc (.cells cs 5)).drew.drew = .ok (.int .i64 1) W1 ∧ RepSt w w.heap.size cs.size 1 W1 := by
  have hg : (w.alloc (.cells cs 5)).drew.drew.heap[w.heap.size]? = some (.cells cs 5 (0, 0)) := heap_alloc_new _ _
  have h := run_copy_row (P := Tryz.prog) (w.alloc (.cells cs 5)).drew.drew 22 22 3 5 w.heap.size 0 n n ⟨p, 0, none⟩ 1 1 cs 5 [bval 255] Tryz.underlying22 (by kernel_rfl) hg (by simp [Nat.min_def]; omega) (by
      intro j v hj
      rcases j with _ | j
      · simp at hj; subst hj
        have hb : Below w.heap.size w (w.alloc (.cells cs 5)).drew.drew := by go_grown
        have := hb.cell (p := ⟨p, 0, none⟩) hpl
        show (w.alloc (.cells cs 5)).drew.drew.cell? ⟨p, 0, none⟩ = _
        rw [this]; exact hp
      · simp at hj) (by simp; omega) (by simp [bval]; rfl)
  refine ⟨_, h, ⟨(cs.toList.drop 1), ?_, ?_⟩, ?_⟩
  · rw [setRow_heap _ _ _ _ _ _ hg]; simp
  · simp; omega
  · exact below_setRow (by go_grown) (Nat.le_refl _) _

theorem RepSt.src {w wr : World} {g C k : Nat} (h : RepSt w g C k wr) (m : Nat) (hm : m ≤ k) (j : Nat) (v : Value) (hj : (List.replicate m (bval 255))[j]? = some v) : wr.cell? ((⟨g, 0, none⟩ : Addr).add j) = some v := by
  obtain ⟨L, hL, _⟩ := h.row
  rw [List.getElem?_replicate] at hj
  split at hj
  · rename_i hjm
    have e : (⟨g, 0, none⟩ : Addr).add j = ⟨g, j, none⟩ := by unfold Addr.add; split <;> simp_all
    rw [e, cell_of_row _ _ _ _ _ _ hL]
    simp only [List.getElem?_toArray]
    rw [List.getElem?_append_left (by simp; omega), List.getElem?_replicate, if_pos (by omega)]
    exact hj
  · cases hj
theorem RepSt.next {w : World} {g C k m : Nat} (L : List Value) (hl : k + L.length = C) (hm : k + m ≤ C) {wr : World} (hb : Below w.heap.size w wr)
    (h : wr.heap[g]? = some (.cells (splice (List.replicate k (bval 255) ++ L) k (List.replicate m (bval 255))).toArray 5 (0, 0))) : RepSt w g C (k + m) wr := by
  refine ⟨⟨L.drop m, ?_, by simp; omega⟩, hb⟩
  rw [h]
  congr 3
  simp only [splice]
  rw [List.take_left' (by simp), ← List.append_assoc, List.length_replicate, List.drop_append, List.drop_eq_nil_of_le (by simp)]
  simp

theorem wrap_small (k m : Nat) (h : k + m ≤ 9223372036854775807) : IntKind.i64.wrap ((k : Int) + (m : Int)) = ((k + m : Nat) : Int) := by
  rw [IntKind.wrap_i64]; omega
set_option maxHeartbeats 1000000 in
theorem repeat_any (p n : Nat) (w : World) (hn : 1 ≤ n) (hn2 : n ≤ 1000000) (hp : w.cell? ⟨p, 0, none⟩ = some (bval 255)) (hpl : p < w.heap.size) :
    Calls Tryz.prog 75 #[.slice (some ⟨p, 0, none⟩) 1 1, .int .i64 n] w fun e w' => ∃ g, w.heap.size ≤ g ∧ e = .returned (.slice (some ⟨g, 0, none⟩) n n) ∧ BRow w' g (List.replicate n 255) ∧ Below w.heap.size w w' := by
  have hm := fun w => mul_one n (by omega) w
  obtain ⟨cs, hmk, hcs⟩ := nozero_any n (by omega) w
  obtain ⟨W1, hcopy, hst⟩ := repeat_first p n w cs hn hcs hp hpl
  have HM := Box.mk hm; clear hm
  have HST := Box.mk hst; clear hst
  have h0 : ((n : Int) == 0) = false := by rw [beq_eq_false_iff_ne]; omega
  have h1 : decide ((n : Int) < 0) = false := by simp
  go_enter Tryz.func75, Tryz.ntmps75
  go_wp2_with fail
  refine (HM.out _).mono ?_
  rintro e w1 ⟨rfl, rfl⟩
  have h2 : decide ((9223372036854775807 : Int) < (n : Int)) = false := by rw [decide_eq_false_iff_not]; omega
  go_wp2_with fail
  all_goals
    go_loopw [10] (fun i wr => ∃ k : Nat, 1 ≤ k ∧ k ≤ n ∧ i = .int .i64 k ∧ RepSt w1 w1.heap.size cs.size k wr) (fun i _ => n - (intOf i).toNat)
    case atStart => exact ⟨1, by omega, hn, rfl, HST.out⟩
    case round =>
      clear HST hcopy
      obtain ⟨k, hk1, hk, rfl, hs⟩ := hrel
      have HS := Box.mk hs; clear hs
      by_cases hlt : k < n
      · have hltI : (k : Int) < (n : Int) := by omega
        have hkn : (k : Int) ≤ (n : Int) := by omega
        go_wp2_with fail
        all_goals
          obtain ⟨L, hL, hLl⟩ := HS.out.row
          have HR := Box.mk hL; clear hL
        all_goals first
        | have h8k : (8192 : Int) < (k : Int) := by assumption
          have h8n : (8192 : Int) ≤ (n : Int) := by omega
          obtain ⟨m, hm⟩ : ∃ m, m = min 8192 (n - k) := ⟨_, rfl⟩
          have S1 := Box.mk (HS.out.src m (by omega))
          have HM := Box.mk hm
          have hm1 : 1 ≤ m := by omega
          have hm2 : k + m ≤ n := by omega
          clear hm
          go_region_law (refine step_copy_splice rfl (.tmp 70) (.tmp 73) 22 22 rfl 5 Tryz.underlying22 (by kernel_rfl) (if n = k then some ⟨w1.heap.size, 0, none⟩ else some ⟨w1.heap.size, k, none⟩) (some ⟨w1.heap.size, 0, none⟩) (n - k) (n - k) 8192 n (by simp [Act.eval, Act.put]) (by simp [Act.eval, Act.put]) w1.heap.size k _ 5 HR.out (List.replicate m (bval 255)) (by rw [List.length_replicate]; exact HM.out) (fun _ => ⟨if_neg (by omega), _, rfl, S1.out⟩) (by rw [List.length_append, List.length_replicate, List.length_replicate]; omega) (by intro v hv; rw [List.eq_of_mem_replicate hv]; rfl) w1.heap.size w1 HS.out.below.drew (Nat.le_refl _) ?_; intro w4 hg4 hb4)
          have HG := Box.mk hg4.out; clear hg4
          have hwr : IntKind.i64.wrap ((k : Int) + (m : Int)) = ((k + m : Nat) : Int) := wrap_small _ _ (by omega)
          rw [hwr]
          go_wp2_with fail
          exact ⟨⟨k + m, by omega, by omega, by go_num, RepSt.next L hLl (by omega) hb4 HG.out⟩, by simp [intOf]; omega⟩
        | skip
          obtain ⟨m, hm⟩ : ∃ m, m = min k (n - k) := ⟨_, rfl⟩
          have S1 := Box.mk (HS.out.src m (by omega))
          have HM := Box.mk hm
          have hm1 : 1 ≤ m := by omega
          have hm2 : k + m ≤ n := by omega
          clear hm
          go_region_law (refine step_copy_splice rfl (.tmp 70) (.tmp 73) 22 22 rfl 5 Tryz.underlying22 (by kernel_rfl) (if n = k then some ⟨w1.heap.size, 0, none⟩ else some ⟨w1.heap.size, k, none⟩) (some ⟨w1.heap.size, 0, none⟩) (n - k) (n - k) k n (by simp [Act.eval, Act.put]) (by simp [Act.eval, Act.put]) w1.heap.size k _ 5 HR.out (List.replicate m (bval 255)) (by rw [List.length_replicate]; exact HM.out) (fun _ => ⟨if_neg (by omega), _, rfl, S1.out⟩) (by rw [List.length_append, List.length_replicate, List.length_replicate]; omega) (by intro v hv; rw [List.eq_of_mem_replicate hv]; rfl) w1.heap.size w1 HS.out.below.drew (Nat.le_refl _) ?_; intro w4 hg4 hb4)
          have HG := Box.mk hg4.out; clear hg4
          have hwr : IntKind.i64.wrap ((k : Int) + (m : Int)) = ((k + m : Nat) : Int) := wrap_small _ _ (by omega)
          rw [hwr]
          go_wp2_with fail
          exact ⟨⟨k + m, by omega, by omega, by go_num, RepSt.next L hLl (by omega) hb4 HG.out⟩, by simp [intOf]; omega⟩
      · obtain rfl : k = n := by omega
        go_wp2
        go_ret
        obtain ⟨L, hL, _⟩ := HS.out.row
        exact ⟨_, Nat.le_refl _, rfl, ⟨L, (0, 0), by rw [hL]; simp, Or.inl rfl⟩, HS.out.below⟩
end Go.Proofs.YtjednaendedpdaaGreat
namespace Go.Proofs.YtjednaendedpdaaGreat
set_option maxRecDepth 100000
set_option linter.unusedVariables false
open Go Go.RowKit

/-- So many blocks are a flash's. -/
@[irreducible] def sizeN (n : Int) : Bool := decide (1 ≤ n ∧ n ≤ 256)
set_option maxHeartbeats 1000000 in
theorem new_yes (k : Nat) (w : World) (hs : sizeN k = true) :
    Calls Tryz.prog 46 #[.int .i64 k] w (Made 89 w (List.replicate (512 * k) 255)) := by
  have hk : 1 ≤ (k : Int) ∧ (k : Int) ≤ 256 := by unfold sizeN at hs; exact of_decide_eq_true hs
  have HS := Box.mk hs; clear hs
  have h1 : decide ((k : Int) < 1) = false := by rw [decide_eq_false_iff_not]; omega
  have h2 : decide (256 < (k : Int)) = false := by rw [decide_eq_false_iff_not]; omega
  go_enter Tryz.func46, Tryz.ntmps46
  go_wp2_with fail
  obtain ⟨n, hn⟩ : ∃ n, n = 512 * k := ⟨_, rfl⟩
  have hn1 : ((k : Int) * 512) = (n : Int) := by omega
  have hsz : sizeB n = true := by unfold sizeB; rw [decide_eq_true_iff]; omega
  rw [hn1, ← hn]
  have HN := Box.mk hn; clear hn hn1
  have HSZ := Box.mk hsz; clear hsz
  have hn2 : 1 ≤ n := by have := HN.out; omega
  have hn3 : n ≤ 1000000 := by have := HN.out; omega
  refine (repeat_any w.heap.size n _ hn2 hn3 (cell_of_row _ _ _ _ _ _ (heap_alloc_new _ _)) (by simp)).mono ?_
  rintro e w1 ⟨g, hg, rfl, hrow, hb⟩
  have hz := hb.size
  simp only [World.size_alloc] at hg hz
  go_wp2_with fail
  refine (of_yes g n (List.replicate n 255) n (by simp) _ hrow (Nat.le_refl _) hn3 HSZ.out).mono ?_
  rintro e w2 ⟨p, cb, rfl, hf, hp, hc, hb2⟩
  go_wp2
  go_ret2
  have hz2 := hb2.size
  exact ⟨p, g, cb, rfl, hf.to (by rw [HN.out]), by omega, by omega, by omega, ((((Below.refl _ _).alloc (Nat.le_refl _) _).trans (hb.mono (by simp)))).trans (hb2.mono (by omega))⟩

theorem new_no (k : Int) (w : World) (hs : sizeN k = false) :
    Calls Tryz.prog 46 #[.int .i64 k] w fun e w' => e = .returned (.tuple #[.pointer none, .int .i64 110]) ∧ w = w' := by
  have hk : ¬ (1 ≤ k ∧ k ≤ 256) := by unfold sizeN at hs; exact of_decide_eq_false hs
  have HS := Box.mk hs; clear hs
  by_cases h : k < 1
  · have h1 : decide (k < 1) = true := by simpa using h
    clear hk
    go_enter Tryz.func46, Tryz.ntmps46
    go_wp2
    go_ret2
    exact ⟨rfl, rfl⟩
  · have h1 : decide (k < 1) = false := by simpa using h
    have h2 : decide (256 < k) = true := by rw [decide_eq_true_iff]; omega
    clear hk
    go_enter Tryz.func46, Tryz.ntmps46
    go_wp2
    go_ret2
    exact ⟨rfl, rfl⟩

theorem str_ne (s : ByteArray) (h : s.size ≠ 0) : s.toList.isEmpty = false := by
  rw [ByteArray.toList_eq]; cases hd : s.data.toList with
  | nil => exact absurd (by have := congrArg List.length hd; simpa using this) h
  | cons a b => rfl
theorem str_no (s : ByteArray) (h : s.size = 0) : s.toList.isEmpty = true := by
  rw [ByteArray.toList_eq, List.isEmpty_iff]; exact List.eq_nil_of_length_eq_zero (by simpa using h)
theorem zeros_str (m : Nat) (w : World) : (convert 22 9 (.slice (some ⟨w.heap.size, 0, none⟩) m m)).run Tryz.prog (w.alloc (.cells (Array.replicate m (.int .u8 0)) 5)) = .ok (.string ⟨(List.replicate m 0).toArray⟩) (w.alloc (.cells (Array.replicate m (.int .u8 0)) 5)) :=
  run_bytes_at Tryz.prog _ w.heap.size 0 m (List.replicate m 0) 22 9 5 m (by simp) Tryz.underlying22 Tryz.underlying5 Tryz.underlying9 (fun j u hu => by
    rw [List.getElem?_replicate] at hu
    split at hu
    · rename_i hj
      cases hu
      rw [cell_of_row _ _ _ _ _ _ (heap_alloc_new _ _), Array.getElem?_replicate, if_pos (by omega)]; rfl
    · cases hu)

end Go.Proofs.YtjednaendedpdaaGreat
namespace Go.Proofs.YtjednaendedpdaaGreat
set_option maxRecDepth 100000
set_option linter.unusedVariables false
open Go Go.RowKit

theorem progBytes_at (b : List UInt8) (A : Nat) (l : List UInt8) (gone : Bool) (keep : Int) (mask : UInt8) (k : Nat) :
    (progBytes b A l gone keep mask)[k]? = (b[k]?).map fun old => if A ≤ k then (match l[k - A]? with | some c => progByte gone keep mask (k - A) old c | none => old) else old := by
  simp only [progBytes, List.getElem?_mapIdx]
  rfl
/-- A step on a living flash. -/
theorem FS.program_go (s : FS) (A : Nat) (l : List UInt8) (hd : s.dead = false) (hl : l ≠ []) (hA : A + l.length ≤ s.b.length) (hp : (A : Int) / 64 = ((A : Int) + l.length - 1) / 64) :
    s.program A l = ({ s.step with b := progBytes s.b A l s.goes s.keep s.mask }, toldI s.goes) := by
  unfold FS.program
  rw [if_neg (by rw [hd]; decide), if_neg (by unfold onB; rw [decide_eq_false_iff_not]; omega), if_neg hl, if_neg (by simpa using hp)]
  rfl
@[irreducible] def fb0 : List UInt8 := List.replicate 512 255
@[irreducible] def fb1 : List UInt8 := progBytes fb0 0 [15, 240] false 0 0
@[irreducible] def fb2 : List UInt8 := progBytes fb1 1 [15] false 0 0
@[irreducible] def fb5 : List UInt8 := progBytes fb2 8 [0, 0] true 1 15
def fx0 : FS := { b := fb0, n := [0], steps := 0, armed := 0, keep := 0, mask := 0, dead := false }
def fx1 : FS := { fx0 with b := fb1, steps := 1 }
def fx2 : FS := { fx0 with b := fb2, steps := 2 }
def fx4 : FS := { fx2 with armed := 1, keep := 1, mask := 15 }
def fx5 : FS := { fx4 with b := fb5, steps := 3, armed := 0, dead := true }
theorem fb0_len : fb0.length = 512 := by unfold fb0; rw [List.length_replicate]
theorem fb1_len : fb1.length = 512 := by unfold fb1; rw [progBytes_length, fb0_len]
theorem fb2_len : fb2.length = 512 := by unfold fb2; rw [progBytes_length, fb1_len]
theorem fb5_len : fb5.length = 512 := by unfold fb5; rw [progBytes_length, fb2_len]
theorem fx_new : FS.new (List.replicate (512 * 1) 255) = fx0 := by
  unfold FS.new fx0 fb0; rw [List.length_replicate]; kernel_rfl
theorem fx_a : fx0.program 0 [15, 240] = (fx1, 0) := by
  have h := FS.program_go fx0 0 [15, 240] rfl (by simp) (by show _ ≤ fb0.length; rw [fb0_len]; decide) (by decide)
  exact h.trans (by kernel_rfl)
theorem fx_b : fx1.program 1 [15] = (fx2, 0) := by
  have h := FS.program_go fx1 1 [15] rfl (by simp) (by show _ ≤ fb1.length; rw [fb1_len]; decide) (by decide)
  exact h.trans (by kernel_rfl)
theorem fx_c : fx2.program 63 [120, 120] = (fx2, 112) := by
  unfold FS.program
  rw [if_neg (by decide), if_neg (by unfold onB; rw [decide_eq_false_iff_not]; show ¬ ¬ (_ ∧ _ ∧ _ ≤ ((fb2.length : Nat) : Int)); rw [fb2_len]; decide), if_neg (by simp), if_pos (by decide)]
theorem fx_i : fx2.arm 1 1 15 = (fx4, 0) := by
  unfold FS.arm
  rw [if_neg (by decide), if_neg (by decide)]
  rfl
theorem fx_j : fx4.program 8 [0, 0] = (fx5, 2) := by
  have h := FS.program_go fx4 8 [0, 0] rfl (by simp) (by show _ ≤ fb2.length; rw [fb2_len]; decide) (by decide)
  exact h.trans (by kernel_rfl)
theorem fb0_at (k : Nat) (h : k < 512) : fb0[k]? = some 255 := by rw [fb0, List.getElem?_replicate, if_pos h]
theorem fx_d2 : onB fx2.b.length 0 3 = true := by
  unfold onB; rw [decide_eq_true_iff]; show _ ∧ _ ∧ _ ≤ ((fb2.length : Nat) : Int); rw [fb2_len]; decide
theorem fx_d3 : (fx2.b.drop (0 : Int).toNat).take (3 : Int).toNat = [15, 0, 255] := by
  have h0 : fb2[0]? = some 15 := by rw [fb2, progBytes_at, fb1, progBytes_at, fb0_at 0 (by omega)]; decide
  have h1 : fb2[1]? = some 0 := by rw [fb2, progBytes_at, fb1, progBytes_at, fb0_at 1 (by omega)]; decide
  have h2 : fb2[2]? = some 255 := by rw [fb2, progBytes_at, fb1, progBytes_at, fb0_at 2 (by omega)]; decide
  show (fb2.drop 0).take 3 = _
  rw [List.drop_zero]
  apply List.ext_getElem?
  intro i
  rw [List.getElem?_take]
  rcases i with _ | _ | _ | i
  · exact h0
  · exact h1
  · exact h2
  · rw [if_neg (by omega)]; rfl
theorem fx_e5 : fb5[8]? = some 0 := by
  rw [fb5, progBytes_at, fb2, progBytes_at, fb1, progBytes_at, fb0_at 8 (by omega)]; decide
theorem fx_e6 : fb5[9]? = some 15 := by
  rw [fb5, progBytes_at, fb2, progBytes_at, fb1, progBytes_at, fb0_at 9 (by omega)]; decide
theorem fx0_ok : fx0.Ok := ⟨by decide, by decide, fb0_len, by decide⟩
theorem fx1_ok : fx1.Ok := ⟨by decide, by decide, fb1_len, by decide⟩
theorem fx2_ok : fx2.Ok := ⟨by decide, by decide, fb2_len, by decide⟩
theorem fx4_ok : fx4.Ok := ⟨by decide, by decide, fb2_len, by decide⟩

end Go.Proofs.YtjednaendedpdaaGreat
namespace Go.Proofs.YtjednaendedpdaaGreat
set_option maxRecDepth 100000
set_option linter.unusedVariables false
open Go Go.RowKit

/-- No failure is laid, the power is on. -/
structure FS.Still (s : FS) : Prop where
  armed : s.armed = 0
  dead : s.dead = false

theorem andBytes_any (b : List UInt8) (A : Nat) (l : List UInt8) (k : Int) (m : UInt8) : progBytes b A l false k m = progBytes b A l false 0 0 := by
  simp only [progBytes, progByte, true_or, if_true]
theorem fullErase_any (b : List UInt8) (A m : Nat) (k : Int) (c : UInt8) : eraseUpto b A m false k c = eraseUpto b A m false 0 0 := by
  simp only [eraseUpto, eraseByte, true_or, if_true]

/-- What Program answers, and whether it does something, at so many bytes. -/
def ansP (n : Nat) (at_ : Int) (l : List UInt8) : Int := if onB n at_ l.length = false then 111 else if l = [] then 0 else if at_ / 64 ≠ (at_ + l.length - 1) / 64 then 112 else 0
def actP (n : Nat) (at_ : Int) (l : List UInt8) : Bool := if onB n at_ l.length = false then false else if l = [] then false else if at_ / 64 ≠ (at_ + l.length - 1) / 64 then false else true
def progS (b : List UInt8) (at_ : Int) (l : List UInt8) : List UInt8 := if actP b.length at_ l then progBytes b at_.toNat l false 0 0 else b
theorem progS_length (b : List UInt8) (at_ : Int) (l : List UInt8) : (progS b at_ l).length = b.length := by
  unfold progS; split
  · rw [progBytes_length]
  · rfl

theorem FS.Still.step {s : FS} (h : s.Still) : s.step.Still ∧ s.goes = false := by
  refine ⟨⟨by simp only [FS.step]; rw [if_pos h.armed], by simp only [FS.step]; rw [if_pos h.armed]; exact h.dead⟩, by unfold FS.goes; rw [if_pos h.armed]⟩
theorem FS.Still.program {s : FS} (h : s.Still) (at_ : Int) (l : List UInt8) :
    (s.program at_ l).2 = ansP s.b.length at_ l ∧ (s.program at_ l).1.b = progS s.b at_ l ∧ (s.program at_ l).1.n = s.n ∧ (s.program at_ l).1.Still := by
  unfold FS.program ansP progS actP
  rw [if_neg (by rw [h.dead]; decide)]
  split
  · exact ⟨rfl, rfl, rfl, h⟩
  · split
    · exact ⟨rfl, rfl, rfl, h⟩
    · split
      · exact ⟨rfl, rfl, rfl, h⟩
      · have k := h.step
        refine ⟨by show toldI s.goes = 0; rw [k.2]; unfold toldI; rfl, ?_, rfl, ⟨k.1.armed, k.1.dead⟩⟩
        show progBytes s.b at_.toNat l s.goes s.keep s.mask = _
        rw [k.2, andBytes_any]; rfl
theorem FS.Still.erase {s : FS} (h : s.Still) (k : Nat) (hk : k < s.n.length) :
    (s.erase k).2 = 0 ∧ (s.erase k).1.b = eraseUpto s.b (512 * k) 512 false 0 0 ∧ (s.erase k).1.n = s.bump k ∧ (s.erase k).1.Still := by
  unfold FS.erase
  rw [if_neg (by rw [h.dead]; decide), if_neg (by unfold blkB; rw [decide_eq_false_iff_not]; omega)]
  have q := h.step
  refine ⟨by show toldI s.goes = 0; rw [q.2]; unfold toldI; rfl, ?_, rfl, ⟨q.1.armed, q.1.dead⟩⟩
  show eraseUpto s.b (512 * k) 512 s.goes s.keep s.mask = _
  rw [q.2, fullErase_any]

theorem and_swap (a b c : UInt8) : a &&& b &&& c = a &&& c &&& b := by rw [UInt8.and_assoc, UInt8.and_comm b c, ← UInt8.and_assoc]
theorem progBytes_comm (b : List UInt8) (A A' : Nat) (l l' : List UInt8) :
    progBytes (progBytes b A l false 0 0) A' l' false 0 0 = progBytes (progBytes b A' l' false 0 0) A l false 0 0 := by
  apply List.ext_getElem?; intro k
  simp only [progBytes_at, Option.map_map, progByte, true_or, if_true]
  congr 1; funext o
  simp only [Function.comp]
  split <;> split <;> (repeat' split) <;> first | rfl | exact and_swap _ _ _
theorem progBytes_twice (b : List UInt8) (A : Nat) (l : List UInt8) :
    progBytes (progBytes b A l false 0 0) A l false 0 0 = progBytes b A l false 0 0 := by
  apply List.ext_getElem?; intro k
  simp only [progBytes_at, Option.map_map, progByte, true_or, if_true]
  congr 1; funext o
  simp only [Function.comp]
  split
  · split
    · rw [UInt8.and_assoc, UInt8.and_self]
    · rfl
  · rfl
theorem progS_twice (b : List UInt8) (at_ : Int) (l : List UInt8) : progS (progS b at_ l) at_ l = progS b at_ l := by
  unfold progS
  by_cases h : actP b.length at_ l = true
  · rw [if_pos h, progBytes_length, if_pos h, progBytes_twice]
  · rw [if_neg h, if_neg h]
theorem progS_comm (b : List UInt8) (a a' : Int) (l l' : List UInt8) : progS (progS b a l) a' l' = progS (progS b a' l') a l := by
  unfold progS
  by_cases h : actP b.length a l = true <;> by_cases h' : actP b.length a' l' = true
  · rw [if_pos h, if_pos h', progBytes_length, progBytes_length, if_pos h, if_pos h', progBytes_comm]
  · rw [if_pos h, if_neg h', progBytes_length, if_neg h', if_pos h]
  · rw [if_neg h, if_pos h', progBytes_length, if_neg h]
  · rw [if_neg h, if_neg h', if_neg h]
theorem eraseUpto_at (b : List UInt8) (base m : Nat) (gone : Bool) (keep : Int) (mask : UInt8) (k : Nat) :
    (eraseUpto b base m gone keep mask)[k]? = (b[k]?).map fun old => if base ≤ k ∧ k < base + m then eraseByte gone keep mask ((k - base) / 64) old else old := by
  simp only [eraseUpto, List.getElem?_mapIdx]
theorem eraseUpto_twice (b : List UInt8) (A m : Nat) : eraseUpto (eraseUpto b A m false 0 0) A m false 0 0 = eraseUpto b A m false 0 0 := by
  apply List.ext_getElem?; intro k
  simp only [eraseUpto_at, Option.map_map, eraseByte, true_or, if_true]
  congr 1; funext o
  simp only [Function.comp]
  split <;> rfl
theorem FS.new_still (l : List UInt8) : (FS.new l).Still := ⟨rfl, rfl⟩
theorem count_two (s s1 s2 : FS) (m : Nat) (hm : 1 ≤ m) (h : s.n = List.replicate m 0) (h1 : s1.n = s.bump 0) (h2 : s2.n = s1.bump 0) : s2.count 0 = 2 := by
  obtain ⟨m, rfl⟩ : ∃ k, m = k + 1 := ⟨m - 1, by omega⟩
  unfold FS.count
  rw [h2, FS.bump, h1, FS.bump, h, if_pos (Int.le_refl 0)]
  simp only [List.replicate_succ, List.getD_cons_zero, List.set_cons_zero, Int.toNat_zero]
  decide +kernel
theorem FS.erase_n (s : FS) (k : Int) : (s.erase k).1.n.length = s.n.length := by
  unfold FS.erase
  (repeat' split) <;> first | rfl | simp only [FS.bump, List.length_set]
end Go.Proofs.YtjednaendedpdaaGreat
namespace Go.Proofs.YtjednaendedpdaaGreat
set_option maxRecDepth 100000
set_option linter.unusedVariables false
open Go Go.RowKit

theorem clone_mid {w W1 : World} {P : Nat} {t : TypeId} {x0 x1 x2 x3 x4 x5 x6 : Value} (hz : W1.heap.size = P + 1) (hG : W1.heap[P]? = some (.cells #[x0, x1, x2, x3, x4, x5, x6] t (0, 0))) (hB : Below P w W1) (A B : Obj) (v u : Value) :
    ∃ W2, W2 = ((((W1.setCell ⟨P, 0, none⟩ v).setCell ⟨P, 1, none⟩ u).alloc A).alloc B).drew ∧ W2.heap[P]? = some (.cells #[v, u, x2, x3, x4, x5, x6] t (0, 0)) ∧ W2.heap[P + 1]? = some A ∧ W2.heap[P + 1 + 1]? = some B ∧ Below P w W2 ∧ W2.heap.size = P + 3 := by
  have z : ((W1.setCell ⟨P, 0, none⟩ v).setCell ⟨P, 1, none⟩ u).heap.size = P + 1 := by simp [hz]
  refine ⟨_, rfl, ?_, ?_, ?_, ?_, ?_⟩
  · show ((((W1.setCell ⟨P, 0, none⟩ v).setCell ⟨P, 1, none⟩ u).alloc A).alloc B).heap[P]? = _
    rw [heap_alloc_old _ _ (by simp [hz]; omega), heap_alloc_old _ _ (by rw [z]; omega), heap_setCell_same _ _ _ _ _ _ (heap_setCell_same _ _ _ _ _ _ hG)]
    rfl
  · show ((((W1.setCell ⟨P, 0, none⟩ v).setCell ⟨P, 1, none⟩ u).alloc A).alloc B).heap[P + 1]? = _
    rw [← z]; exact row_old _ _ _
  · show ((((W1.setCell ⟨P, 0, none⟩ v).setCell ⟨P, 1, none⟩ u).alloc A).alloc B).heap[P + 1 + 1]? = _
    rw [← z]; exact row_new _ _ _
  · exact ((((hB.setCell (p := ⟨P, 0, none⟩) (Nat.le_refl P) v).setCell (p := ⟨P, 1, none⟩) (Nat.le_refl P) u).alloc (by rw [z]; omega) A).alloc (by simp [hz]; omega) B).drew
  · show ((((W1.setCell ⟨P, 0, none⟩ v).setCell ⟨P, 1, none⟩ u).alloc A).alloc B).heap.size = _
    simp [hz]

/-- A row is copied whole into a new one. -/
theorem copy_whole {P : Program} {W : World} {g b n cap : Nat} {e te : TypeId} {dT ty : TypeId} {cur : Array Value} {cs : List Value} (hn : cs.length = n) (hu : P.underlying dT = some (.slice e)) (hs : (P.info? e).map (·.size) = some 1)
    (hg : W.heap[g]? = some (.cells cur te (0, 0))) (hc : cur.size = n) (hsrc : ∀ j v, cs[j]? = some v → W.cell? ⟨b, j, none⟩ = some v) (h1 : ∀ v ∈ cs, v.oneCell' = true) :
    ∃ W', (Builtin.copy_ #[dT, dT] ty #[.slice (some ⟨g, 0, none⟩) n n, .slice (some ⟨b, 0, none⟩) n cap]).run P W = .ok (.int .i64 n) W' ∧ W'.heap[g]? = some (.cells cs.toArray te (0, 0)) ∧ Upd [g] W W' ∧ W'.heap.size = W.heap.size := by
  have h := run_copy_row (P := P) W dT dT ty e g 0 n n ⟨b, 0, none⟩ n cap cur te cs hu hs hg (by simp [hn]) (by
    intro j v hj
    have e : (⟨b, 0, none⟩ : Addr).add j = ⟨b, j, none⟩ := by unfold Addr.add; split <;> simp_all
    rw [e]; exact hsrc j v hj) (by omega) h1
  subst hn
  refine ⟨_, h, ?_, ?_, ?_⟩
  · rw [setRow_heap _ _ _ _ _ _ hg]
    congr 2
    rw [List.take_zero, List.nil_append, List.drop_eq_nil_of_le (by simp; omega), List.append_nil]
  · exact ⟨rfl, rfl, rfl, by simp [World.setRow], fun k hk hn => setRow_other W g k _ (by simpa using hn)⟩
  · simp [World.setRow]

end Go.Proofs.YtjednaendedpdaaGreat
