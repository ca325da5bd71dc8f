/- A part of a flash: size, place, reads, erases, counts. -/
import Derived.Test.YtaeomiedmjedgaaFlashJ
import Derived.Lib.Bytealg
namespace Go.Proofs.Ytaeomiedmjedgaa
set_option linter.unusedVariables false
open Go Go.RowKit

/-- How many bytes are 255. -/
def ffs (s : ByteArray) : Nat := Lib.countByte s.data.toList 255
theorem cstr_run (s : ByteArray) (w : World) : (callFunc 59 #[.string s, .int .u8 255]).run Try.prog w = .ok (.value (.int .i64 (ffs s))) w := by
  rw [run_callFunc_extern Try.func59 (by kernel_rfl) (by kernel_rfl) (by kernel_rfl) (e := Extern.BytealgCount.count) (by kernel_rfl), Lib.run_countString]
  rfl
theorem count1_any (s : ByteArray) (w : World) : Calls Try.prog 45 #[.string s, .string ⟨#[255]⟩] w fun e w' => e = .returned (.int .i64 (ffs s)) ∧ w = w' := by
  have hc := cstr_run s
  have h255 : (((⟨#[255]⟩ : ByteArray)[0]'(by decide)).toNat : Int) = 255 := rfl
  go_enter Try.func45, Try.ntmps45
  go_wp2
  go_ret
  exact ⟨rfl, rfl⟩

/-- A part lies at q: of the flash at p, from block F on, B blocks. -/
structure Pa (w : World) (q p : Nat) (F B : Int) : Prop where
  row : w.heap[q]? = some (.cells #[.pointer (some ⟨p, 0, none⟩), .int .i64 F, .int .i64 B] 70 (0, 0))
theorem Pa.cells {w : World} {q p : Nat} {F B : Int} (h : Pa w q p F B) : w.cell? ⟨q, 0, none⟩ = some (.pointer (some ⟨p, 0, none⟩)) ∧ w.cell? ⟨q, 1, none⟩ = some (.int .i64 F) ∧ w.cell? ⟨q, 2, none⟩ = some (.int .i64 B) := by
  refine ⟨?_, ?_, ?_⟩ <;> (rw [cell_of_row _ _ _ _ _ _ h.row]; rfl)
theorem Pa.lt {w : World} {q p : Nat} {F B : Int} (h : Pa w q p F B) : q < w.heap.size := (Array.getElem?_eq_some_iff.1 h.row).1
theorem Pa.upd {w w' : World} {q p : Nat} {F B : Int} {S : List Nat} (h : Pa w q p F B) (hu : Upd S w w') (hn : q ∉ S) : Pa w' q p F B := ⟨(hu.block _ h.lt hn).trans h.row⟩
/-- The region lies on a flash of n blocks. -/
structure In (n : Nat) (F B : Int) : Prop where
  lo : 0 ≤ F
  some : 1 ≤ B
  hi : F + B ≤ n
  few : n ≤ 256

theorem size_any (q p : Nat) (F B : Int) (n : Nat) (w : World) (h : Pa w q p F B) (hi : In n F B) :
    Calls Try.prog 22 #[.pointer (some ⟨q, 0, none⟩)] w fun e w' => e = .returned (.int .i64 (512 * B)) ∧ w = w' := by
  obtain ⟨c0, c1, c2⟩ := h.cells
  have hw : IntKind.i64.wrap (B * 512) = 512 * B := by rw [IntKind.wrap_i64]; have := hi.some; have := hi.hi; have := hi.lo; have := hi.few; omega
  clear c0 c1 hi h
  go_enter Try.func22, Try.ntmps22
  go_wp2
  go_ret
  exact ⟨rfl, rfl⟩

/-- Do bytes lie on the part? -/
@[irreducible] def inB (B : Int) (at_ n : Int) : Bool := decide (0 ≤ at_ ∧ 0 ≤ n ∧ at_ + n ≤ 512 * B)
theorem inB_iff (B at_ n : Int) : inB B at_ n = true ↔ (0 ≤ at_ ∧ 0 ≤ n ∧ at_ + n ≤ 512 * B) := by unfold inB; simp

set_option maxHeartbeats 1000000 in
theorem place_any (q p : Nat) (F B : Int) (k : Nat) (at_ n : Int) (w : World) (h : Pa w q p F B) (hi : In k F B) (ba : -9223372036854775808 ≤ at_ ∧ at_ ≤ 9223372036854775807) (bn : -9223372036854775808 ≤ n ∧ n ≤ 9223372036854775807) :
    Calls Try.prog 44 #[.pointer (some ⟨q, 0, none⟩), .int .i64 at_, .int .i64 n] w fun e w' => (∃ x, e = .returned (.tuple #[.int .i64 x, .bool (inB B at_ n)]) ∧ (inB B at_ n = true → x = 512 * F + at_)) ∧ w = w' := by
  obtain ⟨c0, c1, c2⟩ := h.cells
  have SZ := Box.mk (fun w h => size_any q p F B k w h hi)
  have HP := Box.mk h
  have h1 := hi.lo; have h2 := hi.some; have h3 := hi.hi; have h4 := hi.few
  have hwF : IntKind.i64.wrap (F * 512) = 512 * F := by rw [IntKind.wrap_i64]; omega
  obtain ⟨x, hx⟩ : ∃ x, x = IntKind.i64.wrap (512 * F + at_) := ⟨_, rfl⟩
  have hxw : IntKind.i64.wrap (512 * F + at_) = x := hx.symm
  have HX : Box (inB B at_ n = true → x = 512 * F + at_) := ⟨fun hb => by
    rw [inB_iff] at hb
    rw [hx, IntKind.wrap_i64]; omega⟩
  obtain ⟨S, hS⟩ : ∃ S, S = 512 * B := ⟨_, rfl⟩
  rw [← hS] at SZ
  have hSl : 512 ≤ S ∧ S ≤ 131072 := by omega
  have E0 := inB_iff B at_ n
  rw [← hS] at E0
  clear c0 c2 hx h1 h2 h3 h4 hS h
  generalize inB B at_ n = r at HX E0 ⊢
  by_cases g0 : 0 ≤ at_
  · have g0' : decide (0 ≤ at_) = true := by simpa using g0
    by_cases g1 : 0 ≤ n
    · have g1' : decide (0 ≤ n) = true := by simpa using g1
      by_cases g2 : at_ ≤ S
      · have g2' : decide (at_ ≤ S) = true := by simpa using g2
        have hws : IntKind.i64.wrap (S - at_) = S - at_ := by rw [IntKind.wrap_i64]; omega
        have E : Box (r = decide (n ≤ S - at_)) := ⟨by cases r <;> simp at E0 ⊢ <;> omega⟩
        clear E0
        go_enter Try.func44, Try.ntmps44
        go_wp2_with fail
        refine (SZ.out _ HP.out).mono ?_
        rintro e w1 ⟨rfl, rfl⟩
        go_wp2_with fail
        refine (SZ.out _ HP.out).mono ?_
        rintro e w1 ⟨rfl, rfl⟩
        go_wp2
        go_ret2
        exact ⟨⟨x, by rw [E.out]; rfl, HX.out⟩, rfl⟩
      · have g2' : decide (at_ ≤ S) = false := by simpa using g2
        have E : Box (r = false) := ⟨by cases r <;> simp at E0 ⊢; omega⟩
        clear E0
        go_enter Try.func44, Try.ntmps44
        go_wp2_with fail
        refine (SZ.out _ HP.out).mono ?_
        rintro e w1 ⟨rfl, rfl⟩
        go_wp2
        go_ret2
        exact ⟨⟨x, by rw [E.out]; rfl, HX.out⟩, rfl⟩
    · have g1' : decide (0 ≤ n) = false := by simpa using g1
      have E : Box (r = false) := ⟨by cases r <;> simp at E0 ⊢; omega⟩
      clear E0
      go_enter Try.func44, Try.ntmps44
      go_wp2
      go_ret2
      exact ⟨⟨x, by rw [E.out]; rfl, HX.out⟩, rfl⟩
  · have g0' : decide (0 ≤ at_) = false := by simpa using g0
    have E : Box (r = false) := ⟨by cases r <;> simp at E0 ⊢; omega⟩
    clear E0
    go_enter Try.func44, Try.ntmps44
    go_wp2
    go_ret2
    exact ⟨⟨x, by rw [E.out]; rfl, HX.out⟩, rfl⟩

/-- What a read answers. -/
def readV (s : FS) (at_ n : Int) : Value := if s.dead then .tuple #[.string ⟨#[]⟩, .int .i64 2] else if onB s.b.length at_ n then .tuple #[.string ⟨((s.b.drop at_.toNat).take n.toNat).toArray⟩, .int .i64 0] else .tuple #[.string ⟨#[]⟩, .int .i64 111]
def preadV (s : FS) (F B : Int) (at_ n : Int) : ByteArray × Int :=
  if inB B at_ n then (if s.dead then (⟨#[]⟩, 2) else (⟨((s.b.drop (512 * F + at_).toNat).take n.toNat).toArray⟩, 0)) else (⟨#[]⟩, 121)
theorem on_in {s : FS} {F B at_ n : Int} (hok : s.Ok) (hi : In s.n.length F B) (hb : inB B at_ n = true) : onB s.b.length (512 * F + at_) n = true := by
  rw [inB_iff] at hb
  unfold onB
  have := hok.len; have := hi.lo; have := hi.hi
  rw [decide_eq_true_eq]; omega
theorem readV_in {s : FS} {F B at_ n : Int} (hok : s.Ok) (hi : In s.n.length F B) (hb : inB B at_ n = true) : readV s (512 * F + at_) n = .tuple #[.string (preadV s F B at_ n).1, .int .i64 (preadV s F B at_ n).2] := by
  unfold readV preadV
  rw [on_in hok hi hb, if_pos rfl, if_pos hb]
  split <;> rfl
theorem pread_any (q p bb cb : Nat) (F B : Int) (s : FS) (at_ n : Int) (w : World) (hf : Fl 75 w p bb cb s) (hok : s.Ok) (h : Pa w q p F B) (hi : In s.n.length F B) (ba : -9223372036854775808 ≤ at_ ∧ at_ ≤ 9223372036854775807) (bn : -9223372036854775808 ≤ n ∧ n ≤ 9223372036854775807) :
    Calls Try.prog 14 #[.pointer (some ⟨q, 0, none⟩), .int .i64 at_, .int .i64 n] w fun e w' => e = .returned (.tuple #[.string (preadV s F B at_ n).1, .int .i64 (preadV s F B at_ n).2]) ∧ w = w' := by
  obtain ⟨c0, c1, c2⟩ := h.cells
  have PL := Box.mk (place_any q p F B _ at_ n w h hi ba bn)
  have h1 := hi.lo; have h2 := hi.some; have h3 := hi.hi; have h4 := hi.few
  by_cases hb : inB B at_ n = true
  · have RD := Box.mk (read_any p bb cb s (512 * F + at_) n w hf hok (by rw [inB_iff] at hb; omega) bn)
    rw [show (if s.dead then _ else _ : Value) = readV s (512 * F + at_) n from rfl, readV_in hok hi hb] at RD
    generalize preadV s F B at_ n = V at RD ⊢
    rw [hb] at PL
    clear c1 c2 h1 h2 h3 h4 ba bn hi h hok hf hb
    go_enter Try.func14, Try.ntmps14
    go_wp2_with fail
    refine PL.out.mono ?_
    rintro e w1 ⟨⟨x, rfl, hx⟩, rfl⟩
    obtain rfl := hx (by simp)
    clear PL
    go_wp2_with fail
    refine RD.out.mono ?_
    rintro e w1 ⟨rfl, rfl⟩
    go_wp2
    go_ret2
    exact ⟨rfl, rfl⟩
  · have hb' : inB B at_ n = false := by simpa using hb
    have E : Box (preadV s F B at_ n = (⟨#[]⟩, 121)) := ⟨by unfold preadV; rw [hb']; rfl⟩
    generalize preadV s F B at_ n = V at E ⊢
    rw [hb'] at PL
    clear c1 c2 h1 h2 h3 h4 ba bn hi h hok hf hb c0 hb'
    obtain ⟨rfl⟩ := E
    go_enter Try.func14, Try.ntmps14
    go_wp2_with fail
    refine PL.out.mono ?_
    rintro e w1 ⟨⟨x, rfl, hx⟩, rfl⟩
    clear PL hx
    go_wp2
    go_ret2
    exact ⟨rfl, rfl⟩
end Go.Proofs.Ytaeomiedmjedgaa
