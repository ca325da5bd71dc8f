/- The flash: one is made. -/
import Derived.Test.YtaeomiedmjedgaaFlashD
import Derived.Lib.ConvBytes
namespace Go.Proofs.Ytaeomiedmjedgaa
set_option linter.unusedVariables false
open Go Go.RowKit

theorem info_int : (Try.prog.info? 3).map (fun i => (i.zero, i.size, i.bytes)) = some (some (.int .i64 0), 1, 8) := by kernel_rfl
theorem info_u8 : (Try.prog.info? 5).map (fun i => (i.zero, i.size, i.bytes)) = some (some (.int .u8 0), 1, 1) := by kernel_rfl
theorem made_one (z : Value) (hz : z.cells = #[z]) (m : Nat) : madeCells z.cells (m * 1) = Array.replicate m z := by
  rw [hz, Nat.mul_one]
  apply Array.ext
  · simp [madeCells]
  · intro i h1 h2
    simp [madeCells, Nat.mod_one]
theorem make_ints (m : Nat) (x : Int) (hx : x = m) (hm : m ≤ 1000000) (w : World) :
    (Instr.makeSlice 62 (.int .i64 x) (.int .i64 x)).run Try.prog w = .ok (.slice (some ⟨w.heap.size, 0, none⟩) m m) (w.alloc (.cells (Array.replicate m (.int .i64 0)) 3)) := by
  subst hx
  obtain ⟨i0, hi, hz0, hz1, hz2⟩ := info_parts info_int
  have h := run_make (P := Try.prog) w 62 3 i0 (.int .i64 0) Try.underlying62 hi hz0 .i64 .i64 m m (by omega) (by omega) (by rw [hz2]; omega) (by omega)
  rw [h, hz1, Int.toNat_natCast, made_one _ rfl]
theorem make_bytes (m : Nat) (x : Int) (hx : x = m) (hm : m ≤ 1000000) (w : World) :
    (Instr.makeSlice 52 (.int .i64 x) (.int .i64 x)).run Try.prog w = .ok (.slice (some ⟨w.heap.size, 0, none⟩) m m) (w.alloc (.cells (Array.replicate m (.int .u8 0)) 5)) := by
  subst hx
  obtain ⟨i0, hi, hz0, hz1, hz2⟩ := info_parts info_u8
  have h := run_make (P := Try.prog) w 52 5 i0 (.int .u8 0) Try.underlying52 hi hz0 .i64 .i64 m m (by omega) (by omega) (by rw [hz2]; omega) (by omega)
  rw [h, hz1, Int.toNat_natCast, made_one _ rfl]

/-- A new flash's state. -/
def FS.new (l : List UInt8) : FS := { b := l, n := List.replicate (l.length / 512) 0, steps := 0, armed := 0, keep := 0, mask := 0, dead := false }
@[irreducible] def sizeB (n : Nat) : Bool := decide (1 ≤ n / 512 ∧ n / 512 ≤ 256 ∧ n % 512 = 0)
theorem FS.new_ok {l : List UInt8} (h : sizeB l.length = true) : (FS.new l).Ok := by
  unfold sizeB at h
  have h := of_decide_eq_true h
  exact ⟨by simp [FS.new], by simp [FS.new], by simp only [FS.new, List.length_replicate]; omega, by simp only [FS.new, List.length_replicate]; omega⟩

theorem row_old (W : World) (A B : Obj) : ((W.alloc A).alloc B).heap[W.heap.size]? = some A := by
  rw [heap_alloc_old _ _ (by simp), heap_alloc_new]
theorem row_new (W : World) (A B : Obj) : ((W.alloc A).alloc B).heap[W.heap.size + 1]? = some B := by
  have := heap_alloc_new (W.alloc A) B
  rwa [World.size_alloc] at this

/-- Bytes in a row of the call's own. -/
def BRow (w : World) (bb : Nat) (l : List UInt8) : Prop := ∃ sp fr, w.heap[bb]? = some (.cells (l.map bval ++ sp).toArray 5 fr) ∧ (fr = (0, 0) ∨ l.length ≤ fr.1)

/-- What making a flash answers: a new one, of these bytes; at bytes bb. -/
def MadeAt (t : TypeId) (w : World) (bb : Nat) (l : List UInt8) (e : Ending) (w' : World) : Prop :=
  ∃ p cb, e = .returned (.tuple #[.pointer (some ⟨p, 0, none⟩), .int .i64 0]) ∧ Fl t w' p bb cb (FS.new l) ∧ w.heap.size ≤ p ∧ w.heap.size ≤ cb ∧ Below w.heap.size w w'
def Made (t : TypeId) (w : World) (l : List UInt8) (e : Ending) (w' : World) : Prop :=
  ∃ p bb cb, e = .returned (.tuple #[.pointer (some ⟨p, 0, none⟩), .int .i64 0]) ∧ Fl t w' p bb cb (FS.new l) ∧ w.heap.size ≤ p ∧ w.heap.size ≤ bb ∧ w.heap.size ≤ cb ∧ Below w.heap.size w w'

set_option maxHeartbeats 1000000 in
theorem of_yes (bb cap : Nat) (l : List UInt8) (n : Nat) (hn : l.length = n) (w : World) (h : BRow w bb l) (hcap : n ≤ cap) (hl : n ≤ 1000000) (hs : sizeB n = true) :
    Calls Try.prog 41 #[.slice (some ⟨bb, 0, none⟩) n cap] w (MadeAt 75 w bb l) := by
  have hs' : 1 ≤ n / 512 ∧ n / 512 ≤ 256 ∧ n % 512 = 0 := by unfold sizeB at hs; exact of_decide_eq_true hs
  have hmk := fun w => make_ints (n / 512) ((n : Int) / 512) (by omega) (by omega) w
  have h1 : ¬ (n : Int) / 512 < 1 := by omega
  have h2 : ¬ (256 : Int) < (n : Int) / 512 := by omega
  have h3 : ((n : Int) % 512 != 0) = false := by rw [bne_eq_false_iff_eq]; omega
  clear hs hs'
  have HR := Box.mk h; clear h
  have HN := Box.mk hn; clear hn
  go_enter Try.func41, Try.ntmps41
  go_wp2
  go_ret2
  refine ⟨w.heap.size + 1, w.heap.size, rfl, ?_, by omega, by omega, by go_grown⟩
  obtain ⟨sp, fr, hb, hfr⟩ := HR.out
  have hlt := (Array.getElem?_eq_some_iff.1 hb).1
  refine ⟨⟨cap, n / 512, by show l.length ≤ cap; rw [HN.out]; exact hcap, by simp [FS.new, HN.out], ?_⟩, ⟨sp, fr, ?_, hfr⟩, ⟨[], ?_⟩, by omega, by omega, by omega⟩
  · rw [row_new]; simp [FS.new, HN.out]
  · rw [heap_alloc_old _ _ (by simp; omega), heap_alloc_old _ _ hlt]; exact hb
  · rw [row_old]; simp [FS.new, HN.out, nval]

set_option maxHeartbeats 1000000 in
theorem of_no (bb : Option Addr) (n cap : Nat) (w : World) (hl : n ≤ 1000000) (hs : sizeB n = false) :
    Calls Try.prog 41 #[.slice bb n cap] w fun e w' => e = .returned (.tuple #[.pointer none, .int .i64 110]) ∧ w = w' := by
  have hs' : ¬ (1 ≤ n / 512 ∧ n / 512 ≤ 256 ∧ n % 512 = 0) := by unfold sizeB at hs; exact of_decide_eq_false hs
  have HS := Box.mk hs'; clear hs hs'
  by_cases h1 : (n : Int) / 512 < 1
  · have h1' : decide ((n : Int) / 512 < 1) = true := by simpa using h1
    go_enter Try.func41, Try.ntmps41
    go_wp2
    go_ret2
    exact ⟨rfl, rfl⟩
  · have h1' : decide ((n : Int) / 512 < 1) = false := by simpa using h1
    by_cases h2 : (256 : Int) < (n : Int) / 512
    · have h2' : decide ((256 : Int) < (n : Int) / 512) = true := by simpa using h2
      go_enter Try.func41, Try.ntmps41
      go_wp2
      go_ret2
      exact ⟨rfl, rfl⟩
    · have h2' : decide ((256 : Int) < (n : Int) / 512) = false := by simpa using h2
      have h3 : ((n : Int) % 512 != 0) = true := by rw [bne_iff_ne]; have := HS.out; omega
      go_enter Try.func41, Try.ntmps41
      go_wp2
      go_ret2
      exact ⟨rfl, rfl⟩

theorem bytesWorld_row (w : World) (s : ByteArray) : BRow (Lib.bytesWorld w 5 s) w.heap.size s.data.toList := by
  refine ⟨List.replicate (grownCap w s.size 0 5 - s.size) (.int .u8 0), ((Lib.bytesCells w 5 s).size, (Lib.bytesCells w 5 s).size + 1), ?_, ?_⟩
  · rw [Lib.bytesWorld_at_new]
    congr 2
    simp [Lib.bytesCells, bval]
  · right; simp [Lib.bytesCells]
theorem bytesWorld_below (w : World) (s : ByteArray) : Below w.heap.size w (Lib.bytesWorld w 5 s) :=
  ⟨rfl, rfl, rfl, by rw [Lib.bytesWorld_size]; omega, fun k hk => Lib.bytesWorld_at_old w 5 s k hk⟩

set_option maxHeartbeats 1000000 in
theorem open_yes (s : ByteArray) (w : World) (hs : sizeB s.size = true) :
    Calls Try.prog 21 #[.string s] w (Made 75 w s.data.toList) := by
  have hs' : 1 ≤ s.size / 512 ∧ s.size / 512 ≤ 256 ∧ s.size % 512 = 0 := by unfold sizeB at hs; exact of_decide_eq_true hs
  have hcv := fun w => Lib.run_convert_string_bytes (P := Try.prog) w 9 52 5 s Try.underlying9 Try.underlying52 Try.underlying5
  have h0 : ¬ (131072 : Int) < (s.size : Int) := by omega
  have HS := Box.mk hs; clear hs
  go_enter Try.func21, Try.ntmps21
  go_wp2_with fail
  refine (of_yes w.heap.size (grownCap w s.size 0 5) s.data.toList s.size (by simp) _ (bytesWorld_row w s) (grownCap_ge w _ _ _) (by omega) HS.out).mono ?_
  rintro e w1 ⟨p, cb, rfl, hf, h1, h2, hb⟩
  have hb0 := bytesWorld_below w s
  have hz := hb0.size
  go_wp2
  go_ret2
  exact ⟨p, w.heap.size, cb, rfl, hf, by omega, by omega, by omega, hb0.trans (hb.mono hz)⟩

set_option maxHeartbeats 1000000 in
theorem open_no (s : ByteArray) (w : World) (hs : sizeB s.size = false) :
    Calls Try.prog 21 #[.string s] w fun e w' => e = .returned (.tuple #[.pointer none, .int .i64 110]) ∧ Below w.heap.size w w' := by
  by_cases h0 : (131072 : Int) < (s.size : Int)
  · clear hs
    go_enter Try.func21, Try.ntmps21
    go_wp2
    go_ret2
    exact ⟨rfl, Below.refl _ _⟩
  · have hcv := fun w => Lib.run_convert_string_bytes (P := Try.prog) w 9 52 5 s Try.underlying9 Try.underlying52 Try.underlying5
    have HS := Box.mk hs; clear hs
    go_enter Try.func21, Try.ntmps21
    go_wp2_with fail
    refine (of_no _ s.size _ _ (by omega) HS.out).mono ?_
    rintro e w1 ⟨rfl, rfl⟩
    have hb0 := bytesWorld_below w s
    go_wp2
    go_ret2
    exact ⟨rfl, hb0⟩
end Go.Proofs.Ytaeomiedmjedgaa
