/- A part of a flash: size, place, reads, erases, counts. A part of a flash: erase, count, dead, clone, clean, new. A part of a flash: New, Write. A part of a flash: New. The parts of a flash: regions, Plan; the document's Plan. The calls that the document fixes, of a part: the numbers. -/
import Derived.Test.YtjednaendedpdaaGreatM02
import Derived.Lib.Bytealg
import Derived.Deep.DeepCutAuto
namespace Go.Proofs.YtjednaendedpdaaGreat
set_option maxRecDepth 100000
set_option linter.unusedVariables false
open Go Go.RowKit

/-- How many bytes are 255. -/
def ffs (s : ByteArray) : Nat := Lib.countByte s.data.toList 255
theorem cstr_run (s : ByteArray) (w : World) : (callFunc 109 #[.string s, .int .u8 255]).run Tryz.prog w = .ok (.value (.int .i64 (ffs s))) w := by
  rw [run_callFunc_extern Tryz.func109 (by kernel_rfl) (by kernel_rfl) (by kernel_rfl) (e := Extern.BytealgCount.count) (by kernel_rfl), Lib.run_countString]
  rfl
theorem count1_any (s : ByteArray) (w : World) : Calls Tryz.prog 91 #[.string s, .string ⟨#[255]⟩] w fun e w' => e = .returned (.int .i64 (ffs s)) ∧ w = w' := by
  have hc := cstr_run s
  have h255 : (((⟨#[255]⟩ : ByteArray)[0]'(by decide)).toNat : Int) = 255 := rfl
  go_enter Tryz.func91, Tryz.ntmps91
  go_wp2
  go_ret
  exact ⟨rfl, rfl⟩

/-- A part lies at q: of the flash at p, from block F on, B blocks. -/
structure Pa (w : World) (q p : Nat) (F B : Int) : Prop where
  row : w.heap[q]? = some (.cells #[.pointer (some ⟨p, 0, none⟩), .int .i64 F, .int .i64 B] 102 (0, 0))
theorem Pa.cells {w : World} {q p : Nat} {F B : Int} (h : Pa w q p F B) : w.cell? ⟨q, 0, none⟩ = some (.pointer (some ⟨p, 0, none⟩)) ∧ w.cell? ⟨q, 1, none⟩ = some (.int .i64 F) ∧ w.cell? ⟨q, 2, none⟩ = some (.int .i64 B) := by
  refine ⟨?_, ?_, ?_⟩ <;> (rw [cell_of_row _ _ _ _ _ _ h.row]; rfl)
theorem Pa.lt {w : World} {q p : Nat} {F B : Int} (h : Pa w q p F B) : q < w.heap.size := (Array.getElem?_eq_some_iff.1 h.row).1
theorem Pa.upd {w w' : World} {q p : Nat} {F B : Int} {S : List Nat} (h : Pa w q p F B) (hu : Upd S w w') (hn : q ∉ S) : Pa w' q p F B := ⟨(hu.block _ h.lt hn).trans h.row⟩
/-- The region lies on a flash of n blocks. -/
structure In (n : Nat) (F B : Int) : Prop where
  lo : 0 ≤ F
  some : 1 ≤ B
  hi : F + B ≤ n
  few : n ≤ 256

theorem size_any (q p : Nat) (F B : Int) (n : Nat) (w : World) (h : Pa w q p F B) (hi : In n F B) :
    Calls Tryz.prog 58 #[.pointer (some ⟨q, 0, none⟩)] w fun e w' => e = .returned (.int .i64 (512 * B)) ∧ w = w' := by
  obtain ⟨c0, c1, c2⟩ := h.cells
  have hw : IntKind.i64.wrap (B * 512) = 512 * B := by rw [IntKind.wrap_i64]; have := hi.some; have := hi.hi; have := hi.lo; have := hi.few; omega
  clear c0 c1 hi h
  go_enter Tryz.func58, Tryz.ntmps58
  go_wp2
  go_ret
  exact ⟨rfl, rfl⟩

/-- Do bytes lie on the part? -/
@[irreducible] def inB (B : Int) (at_ n : Int) : Bool := decide (0 ≤ at_ ∧ 0 ≤ n ∧ at_ + n ≤ 512 * B)
theorem inB_iff (B at_ n : Int) : inB B at_ n = true ↔ (0 ≤ at_ ∧ 0 ≤ n ∧ at_ + n ≤ 512 * B) := by unfold inB; simp

set_option maxHeartbeats 1000000 in
theorem place_any (q p : Nat) (F B : Int) (k : Nat) (at_ n : Int) (w : World) (h : Pa w q p F B) (hi : In k F B) (ba : -9223372036854775808 ≤ at_ ∧ at_ ≤ 9223372036854775807) (bn : -9223372036854775808 ≤ n ∧ n ≤ 9223372036854775807) :
    Calls Tryz.prog 59 #[.pointer (some ⟨q, 0, none⟩), .int .i64 at_, .int .i64 n] w fun e w' => (∃ x, e = .returned (.tuple #[.int .i64 x, .bool (inB B at_ n)]) ∧ (inB B at_ n = true → x = 512 * F + at_)) ∧ w = w' := by
  obtain ⟨c0, c1, c2⟩ := h.cells
  have SZ := Box.mk (fun w h => size_any q p F B k w h hi)
  have HP := Box.mk h
  have h1 := hi.lo; have h2 := hi.some; have h3 := hi.hi; have h4 := hi.few
  have hwF : IntKind.i64.wrap (F * 512) = 512 * F := by rw [IntKind.wrap_i64]; omega
  obtain ⟨x, hx⟩ : ∃ x, x = IntKind.i64.wrap (512 * F + at_) := ⟨_, rfl⟩
  have hxw : IntKind.i64.wrap (512 * F + at_) = x := hx.symm
  have HX : Box (inB B at_ n = true → x = 512 * F + at_) := ⟨fun hb => by
    rw [inB_iff] at hb
    rw [hx, IntKind.wrap_i64]; omega⟩
  obtain ⟨S, hS⟩ : ∃ S, S = 512 * B := ⟨_, rfl⟩
  rw [← hS] at SZ
  have hSl : 512 ≤ S ∧ S ≤ 131072 := by omega
  have E0 := inB_iff B at_ n
  rw [← hS] at E0
  clear c0 c2 hx h1 h2 h3 h4 hS h
  generalize inB B at_ n = r at HX E0 ⊢
  by_cases g0 : 0 ≤ at_
  · have g0' : decide (0 ≤ at_) = true := by simpa using g0
    by_cases g1 : 0 ≤ n
    · have g1' : decide (0 ≤ n) = true := by simpa using g1
      by_cases g2 : at_ ≤ S
      · have g2' : decide (at_ ≤ S) = true := by simpa using g2
        have hws : IntKind.i64.wrap (S - at_) = S - at_ := by rw [IntKind.wrap_i64]; omega
        have E : Box (r = decide (n ≤ S - at_)) := ⟨by cases r <;> simp at E0 ⊢ <;> omega⟩
        clear E0
        go_enter Tryz.func59, Tryz.ntmps59
        go_wp2_with fail
        refine (SZ.out _ HP.out).mono ?_
        rintro e w1 ⟨rfl, rfl⟩
        go_wp2_with fail
        refine (SZ.out _ HP.out).mono ?_
        rintro e w1 ⟨rfl, rfl⟩
        go_wp2
        go_ret2
        exact ⟨⟨x, by rw [E.out]; rfl, HX.out⟩, rfl⟩
      · have g2' : decide (at_ ≤ S) = false := by simpa using g2
        have E : Box (r = false) := ⟨by cases r <;> simp at E0 ⊢; omega⟩
        clear E0
        go_enter Tryz.func59, Tryz.ntmps59
        go_wp2_with fail
        refine (SZ.out _ HP.out).mono ?_
        rintro e w1 ⟨rfl, rfl⟩
        go_wp2
        go_ret2
        exact ⟨⟨x, by rw [E.out]; rfl, HX.out⟩, rfl⟩
    · have g1' : decide (0 ≤ n) = false := by simpa using g1
      have E : Box (r = false) := ⟨by cases r <;> simp at E0 ⊢; omega⟩
      clear E0
      go_enter Tryz.func59, Tryz.ntmps59
      go_wp2
      go_ret2
      exact ⟨⟨x, by rw [E.out]; rfl, HX.out⟩, rfl⟩
  · have g0' : decide (0 ≤ at_) = false := by simpa using g0
    have E : Box (r = false) := ⟨by cases r <;> simp at E0 ⊢; omega⟩
    clear E0
    go_enter Tryz.func59, Tryz.ntmps59
    go_wp2
    go_ret2
    exact ⟨⟨x, by rw [E.out]; rfl, HX.out⟩, rfl⟩

/-- What a read answers. -/
def readV (s : FS) (at_ n : Int) : Value := if s.dead then .tuple #[.string ⟨#[]⟩, .int .i64 2] else if onB s.b.length at_ n then .tuple #[.string ⟨((s.b.drop at_.toNat).take n.toNat).toArray⟩, .int .i64 0] else .tuple #[.string ⟨#[]⟩, .int .i64 111]
def preadV (s : FS) (F B : Int) (at_ n : Int) : ByteArray × Int :=
  if inB B at_ n then (if s.dead then (⟨#[]⟩, 2) else (⟨((s.b.drop (512 * F + at_).toNat).take n.toNat).toArray⟩, 0)) else (⟨#[]⟩, 121)
theorem on_in {s : FS} {F B at_ n : Int} (hok : s.Ok) (hi : In s.n.length F B) (hb : inB B at_ n = true) : onB s.b.length (512 * F + at_) n = true := by
  rw [inB_iff] at hb
  unfold onB
  have := hok.len; have := hi.lo; have := hi.hi
  rw [decide_eq_true_eq]; omega
theorem readV_in {s : FS} {F B at_ n : Int} (hok : s.Ok) (hi : In s.n.length F B) (hb : inB B at_ n = true) : readV s (512 * F + at_) n = .tuple #[.string (preadV s F B at_ n).1, .int .i64 (preadV s F B at_ n).2] := by
  unfold readV preadV
  rw [on_in hok hi hb, if_pos rfl, if_pos hb]
  split <;> rfl
theorem pread_any (q p bb cb : Nat) (F B : Int) (s : FS) (at_ n : Int) (w : World) (hf : Fl 89 w p bb cb s) (hok : s.Ok) (h : Pa w q p F B) (hi : In s.n.length F B) (ba : -9223372036854775808 ≤ at_ ∧ at_ ≤ 9223372036854775807) (bn : -9223372036854775808 ≤ n ∧ n ≤ 9223372036854775807) :
    Calls Tryz.prog 27 #[.pointer (some ⟨q, 0, none⟩), .int .i64 at_, .int .i64 n] w fun e w' => e = .returned (.tuple #[.string (preadV s F B at_ n).1, .int .i64 (preadV s F B at_ n).2]) ∧ w = w' := by
  obtain ⟨c0, c1, c2⟩ := h.cells
  have PL := Box.mk (place_any q p F B _ at_ n w h hi ba bn)
  have h1 := hi.lo; have h2 := hi.some; have h3 := hi.hi; have h4 := hi.few
  by_cases hb : inB B at_ n = true
  · have RD := Box.mk (read_any p bb cb s (512 * F + at_) n w hf hok (by rw [inB_iff] at hb; omega) bn)
    rw [show (if s.dead then _ else _ : Value) = readV s (512 * F + at_) n from rfl, readV_in hok hi hb] at RD
    generalize preadV s F B at_ n = V at RD ⊢
    rw [hb] at PL
    clear c1 c2 h1 h2 h3 h4 ba bn hi h hok hf hb
    go_enter Tryz.func27, Tryz.ntmps27
    go_wp2_with fail
    refine PL.out.mono ?_
    rintro e w1 ⟨⟨x, rfl, hx⟩, rfl⟩
    obtain rfl := hx (by simp)
    clear PL
    go_wp2_with fail
    refine RD.out.mono ?_
    rintro e w1 ⟨rfl, rfl⟩
    go_wp2
    go_ret2
    exact ⟨rfl, rfl⟩
  · have hb' : inB B at_ n = false := by simpa using hb
    have E : Box (preadV s F B at_ n = (⟨#[]⟩, 121)) := ⟨by unfold preadV; rw [hb']; rfl⟩
    generalize preadV s F B at_ n = V at E ⊢
    rw [hb'] at PL
    clear c1 c2 h1 h2 h3 h4 ba bn hi h hok hf hb c0 hb'
    obtain ⟨rfl⟩ := E
    go_enter Tryz.func27, Tryz.ntmps27
    go_wp2_with fail
    refine PL.out.mono ?_
    rintro e w1 ⟨⟨x, rfl, hx⟩, rfl⟩
    clear PL hx
    go_wp2
    go_ret2
    exact ⟨rfl, rfl⟩
end Go.Proofs.YtjednaendedpdaaGreat
namespace Go.Proofs.YtjednaendedpdaaGreat
set_option maxRecDepth 100000
set_option linter.unusedVariables false
open Go Go.RowKit

/-- Erase through a part. -/
def FS.perase (s : FS) (F B : Int) (k : Int) : FS × Int := if 0 ≤ k ∧ k < B then s.erase (F + k) else (s, 121)
set_option maxHeartbeats 1000000 in
theorem perase_any (q p bb cb : Nat) (F B : Int) (s : FS) (k : Int) (w : World) (hf : Fl 89 w p bb cb s) (hok : s.Ok) (h : Pa w q p F B) (hi : In s.n.length F B) :
    Calls Tryz.prog 92 #[.pointer (some ⟨q, 0, none⟩), .int .i64 k] w fun e w' => e = .returned (.int .i64 (s.perase F B k).2) ∧ Fl 89 w' p bb cb (s.perase F B k).1 ∧ Upd [p, bb, cb] w w' := by
  obtain ⟨c0, c1, c2⟩ := h.cells
  have HF := Box.mk hf
  by_cases g0 : k < 0
  · have g0' : decide (k < 0) = true := by simpa using g0
    have E : Box (s.perase F B k = (s, 121)) := ⟨by unfold FS.perase; rw [if_neg (by omega)]⟩
    obtain ⟨V, hV⟩ : ∃ V, V = s.perase F B k := ⟨_, rfl⟩
    rw [← hV] at E ⊢
    obtain ⟨rfl⟩ := E
    clear hV c0 c1 hi h hok hf g0
    go_enter Tryz.func92, Tryz.ntmps92
    go_wp2
    go_ret
    exact ⟨rfl, HF.out, Upd.refl _ _⟩
  · have g0' : decide (k < 0) = false := by simpa using g0
    by_cases g1 : k < B
    · have g1' : decide (B ≤ k) = false := by simpa using g1
      have hw : IntKind.i64.wrap (F + k) = F + k := by rw [IntKind.wrap_i64]; have := hi.lo; have := hi.hi; have := hi.few; omega
      have E : Box (s.perase F B k = s.erase (F + k)) := ⟨by unfold FS.perase; rw [if_pos (by omega)]⟩
      have ER := Box.mk (fun w h => erase_any p bb cb s (F + k) w h hok)
      rw [← E.out] at ER
      generalize s.perase F B k = V at ER ⊢
      clear E hi h hok hf g0 g1
      go_enter Tryz.func92, Tryz.ntmps92
      go_wp2
      go_still_tail 11, (by kernel_rfl)
      change wpList _ _ _ _ _ w.drew
      go_wp2_with fail
      refine (ER.out _ (HF.out.upd (Upd.refl [] _).drew (by simp) (by simp) (by simp))).mono ?_
      rintro e w1 ⟨rfl, hf1, hu1⟩
      have HF1 := Box.mk hf1; have HU := Box.mk ((Upd.refl [p, bb, cb] w).drew.trans hu1); clear hf1 hu1
      go_wp2
      go_ret
      exact ⟨rfl, HF1.out, HU.out⟩
    · have g1' : decide (B ≤ k) = true := by simpa using g1
      have E : Box (s.perase F B k = (s, 121)) := ⟨by unfold FS.perase; rw [if_neg (by omega)]⟩
      obtain ⟨V, hV⟩ : ∃ V, V = s.perase F B k := ⟨_, rfl⟩
      rw [← hV] at E ⊢
      obtain ⟨rfl⟩ := E
      clear hV c0 c1 hi h hok hf g0 g1
      go_enter Tryz.func92, Tryz.ntmps92
      go_wp2
      go_ret
      exact ⟨rfl, HF.out, Upd.refl _ _⟩
/-- How often a part's block was erased. -/
def FS.pcount (s : FS) (F B : Int) (k : Int) : Int := if 0 ≤ k ∧ k < B then s.count (F + k) else 0
theorem pdead_any (q p bb cb : Nat) (F B : Int) (s : FS) (w : World) (hf : Fl 89 w p bb cb s) (h : Pa w q p F B) :
    Calls Tryz.prog 50 #[.pointer (some ⟨q, 0, none⟩)] w fun e w' => e = .returned (.bool s.dead) ∧ w = w' := by
  obtain ⟨c0, c1, c2⟩ := h.cells
  have ER := Box.mk (fun w h => dead_any p bb cb s w h)
  have HF := Box.mk hf
  clear c1 c2 h hf
  go_enter Tryz.func50, Tryz.ntmps50
  go_wp2_with fail
  refine (ER.out _ HF.out).mono ?_
  rintro e w1 ⟨rfl, rfl⟩
  go_wp2
  go_ret
  exact ⟨rfl, rfl⟩
/-- Are bytes of a part all 255? -/
def pcleanV (s : FS) (F B : Int) (at_ n : Int) : Bool × Int :=
  if (preadV s F B at_ n).2 = 0 then (((ffs (preadV s F B at_ n).1 : Nat) : Int) == (((preadV s F B at_ n).1.size : Nat) : Int), 0) else (false, (preadV s F B at_ n).2)
theorem pclean_any (q p bb cb : Nat) (F B : Int) (s : FS) (at_ n : Int) (w : World) (hf : Fl 89 w p bb cb s) (hok : s.Ok) (h : Pa w q p F B) (hi : In s.n.length F B) (ba : -9223372036854775808 ≤ at_ ∧ at_ ≤ 9223372036854775807) (bn : -9223372036854775808 ≤ n ∧ n ≤ 9223372036854775807) :
    Calls Tryz.prog 68 #[.pointer (some ⟨q, 0, none⟩), .int .i64 at_, .int .i64 n] w fun e w' => e = .returned (.tuple #[.bool (pcleanV s F B at_ n).1, .int .i64 (pcleanV s F B at_ n).2]) ∧ w = w' := by
  have RD := Box.mk (pread_any q p bb cb F B s at_ n w hf hok h hi ba bn)
  unfold pcleanV
  generalize preadV s F B at_ n = V at RD ⊢
  obtain ⟨S, x⟩ := V
  dsimp only at RD ⊢
  clear ba bn hi h hok hf
  by_cases hx : x = 0
  · subst hx
    rw [if_pos rfl]
    go_enter Tryz.func68, Tryz.ntmps68
    go_wp2_with fail
    refine RD.out.mono ?_
    rintro e w1 ⟨rfl, rfl⟩
    go_wp2_with fail
    refine (count1_any S w).mono ?_
    rintro e w1 ⟨rfl, rfl⟩
    go_wp2
    go_ret2
    exact ⟨rfl, rfl⟩
  · have hxb : (x != 0) = true := by rw [bne_iff_ne]; exact hx
    rw [if_neg hx]
    clear hx
    go_enter Tryz.func68, Tryz.ntmps68
    go_wp2_with fail
    refine RD.out.mono ?_
    rintro e w1 ⟨rfl, rfl⟩
    go_wp2
    go_ret2
    exact ⟨rfl, rfl⟩
end Go.Proofs.YtjednaendedpdaaGreat
namespace Go.Proofs.YtjednaendedpdaaGreat
set_option maxRecDepth 100000
set_option linter.unusedVariables false
open Go Go.RowKit

/-- Write through a part: piece by piece, each in one page. -/
def FS.pw : Nat → FS → Int → List UInt8 → FS × Int
  | 0, s, _, _ => (s, 0)
  | k + 1, s, A, l => if l = [] then (s, 0) else
      let n := min l.length (64 - (A % 64).toNat)
      if (s.program A (l.take n)).2 ≠ 0 then s.program A (l.take n) else FS.pw k (s.program A (l.take n)).1 (A + n) (l.drop n)
def FS.pwrite (s : FS) (F B : Int) (at_ : Int) (l : List UInt8) : FS × Int := if inB B at_ l.length then FS.pw l.length s (512 * F + at_) l else (s, 121)
theorem FS.pw_nil (k : Nat) (s : FS) (A : Int) : FS.pw k s A [] = (s, 0) := by cases k <;> simp [FS.pw]
theorem FS.pw_step (k : Nat) (s : FS) (A : Int) (l : List UInt8) (h : l ≠ []) : FS.pw (k + 1) s A l =
    if (s.program A (l.take (min l.length (64 - (A % 64).toNat)))).2 ≠ 0 then s.program A (l.take (min l.length (64 - (A % 64).toNat)))
    else FS.pw k (s.program A (l.take (min l.length (64 - (A % 64).toNat)))).1 (A + (min l.length (64 - (A % 64).toNat) : Nat)) (l.drop (min l.length (64 - (A % 64).toNat))) := by
  rw [FS.pw, if_neg h]
theorem FS.program_n (s : FS) (A : Int) (l : List UInt8) : (s.program A l).1.n.length = s.n.length := by
  unfold FS.program
  (repeat' split) <;> rfl
set_option maxHeartbeats 2000000 in
theorem pwrite_any (q p bb cb : Nat) (F B : Int) (s : FS) (at_ : Int) (str : ByteArray) (w : World) (hf : Fl 89 w p bb cb s) (hok : s.Ok) (h : Pa w q p F B) (hi : In s.n.length F B) (hqb : q ≠ bb) (hqp : q ≠ p) (ba : -9223372036854775808 ≤ at_ ∧ at_ ≤ 9223372036854775807) (hs : str.size ≤ 9223372036854775807) :
    Calls Tryz.prog 55 #[.pointer (some ⟨q, 0, none⟩), .int .i64 at_, .string str] w fun e w' => e = .returned (.int .i64 (s.pwrite F B at_ str.data.toList).2) ∧ Fl 89 w' p bb cb (s.pwrite F B at_ str.data.toList).1 ∧ Upd [p, bb] w w' := by
  have PL := Box.mk (place_any q p F B _ at_ str.size w h hi ba (by omega))
  have hlen : str.data.toList.length = str.size := by simp
  by_cases hb : inB B at_ str.size = true
  · have hin := hb
    rw [inB_iff] at hin
    rw [hb] at PL
    have E : s.pwrite F B at_ str.data.toList = FS.pw str.size s (512 * F + at_) str.data.toList := by unfold FS.pwrite; rw [hlen, hb, if_pos rfl]
    rw [E]
    obtain ⟨R, hR⟩ : ∃ R, R = FS.pw str.size s (512 * F + at_) str.data.toList := ⟨_, rfl⟩
    rw [← hR]
    have HR := Box.mk hR; have HF := Box.mk hf; have HP := Box.mk h; have HOK := Box.mk hok; have HI := Box.mk hi; have HIN := Box.mk hin
    clear E hb hlen hR hf h hok hi hin hs ba
    go_enter Tryz.func55, Tryz.ntmps55
    go_wp2_with fail
    refine PL.out.mono ?_
    rintro e w1 ⟨⟨x, rfl, hx⟩, rfl⟩
    obtain rfl := hx (by simp)
    clear PL
    go_wp2_with fail
    have HU0 : Box (Upd [p, bb] w w) := ⟨Upd.refl _ _⟩
    have hk0 := Box.mk (show In s.n.length F B from HI.out)
    obtain ⟨w0, hw0⟩ : ∃ w0 : World, w0 = w := ⟨_, rfl⟩
    go_loopw [2, 7] (fun x y wr => ∃ (t : ByteArray) (s' : FS) (A : Int) (k : Nat), x = .string t ∧ y = .int .i64 A ∧ t.size ≤ k ∧ FS.pw k s' A t.data.toList = R ∧ Fl 89 wr p bb cb s' ∧ s'.Ok ∧ s'.n.length = s.n.length ∧ 0 ≤ A ∧ A + t.size ≤ 131072 ∧ Upd [p, bb] w wr) (fun x _ _ => match x with | .string t => t.size | _ => 0)
    case atStart => exact ⟨str, s, _, str.size, rfl, rfl, Nat.le_refl _, HR.out.symm, HF.out, HOK.out, rfl, by have := HI.out.lo; have := HIN.out; omega, by have := HI.out.hi; have := HI.out.few; have := HIN.out; omega, Upd.refl _ _⟩
    case round =>
      clear HF HOK HR HU0 hk0
      obtain ⟨t, s', A, k, rfl, rfl, hk, hpw, hf, hok, hn, hA, hA2, hu⟩ := hrel
      have HF := Box.mk hf; have HU := Box.mk hu; have HOK := Box.mk hok
      obtain ⟨c0, _, _⟩ := (HP.out.upd hu (by simp [hqp, hqb])).cells
      clear hf hu hok
      by_cases ht : t.size = 0
      · have hte : t.toList.isEmpty = true := by
          have : t.toList = t.data.toList := ByteArray.toList_eq t
          rw [this, List.isEmpty_iff_length_eq_zero]; simpa using ht
        have htl : t.data.toList = [] := List.eq_nil_of_length_eq_zero (by simpa using ht)
        rw [htl, FS.pw_nil] at hpw
        have HR := Box.mk hpw
        clear hpw htl ht hn hk hA hA2 c0
        go_wp2_with fail
        go_ret
        obtain ⟨rfl⟩ := HR
        exact ⟨rfl, HF.out, HU.out⟩
      · have hte : t.toList.isEmpty = false := by
          have : t.toList = t.data.toList := ByteArray.toList_eq t
          rw [this, Bool.eq_false_iff, ne_eq, List.isEmpty_iff_length_eq_zero]; simpa using ht
        obtain ⟨k', rfl⟩ : ∃ k', k = k' + 1 := ⟨k - 1, by omega⟩
        obtain ⟨m, hm⟩ : ∃ m, m = min t.size (64 - (A % 64).toNat) := ⟨_, rfl⟩
        have hll : t.data.toList.length = t.size := by simp
        have hm1 : 1 ≤ m ∧ m ≤ t.size := by omega
        rw [FS.pw_step _ _ _ _ (by intro h; rw [h] at hll; simp at hll; omega), hll, ← hm] at hpw
        have hul : (t.extract 0 m).data.toList = t.data.toList.take m := by simp [ByteArray.data_extract, List.extract_eq_take_drop]
        have hvl : (t.extract m t.size).data.toList = t.data.toList.drop m := by
          rw [ByteArray.data_extract, Array.toList_extract, List.extract_eq_take_drop, List.take_of_length_le (by rw [List.length_drop, hll]; exact Nat.le_refl _)]
        rw [← hul, ← hvl] at hpw
        have hus : (t.extract 0 m).size = m := by rw [ByteArray.size_extract]; omega
        have hvs : (t.extract m t.size).size = t.size - m := by rw [ByteArray.size_extract]; omega
        have PR := Box.mk (fun w h => program_any p bb cb s' A (t.extract 0 m) w h HOK.out (by omega) (by omega))
        have OK2 := Box.mk (FS.program_ok HOK.out A (t.extract 0 m).data.toList)
        have N2 := Box.mk (FS.program_n s' A (t.extract 0 m).data.toList)
        have HMM := Box.mk hm
        have HVS := Box.mk hvs
        generalize s'.program A (t.extract 0 m).data.toList = r at PR OK2 N2 hpw
        clear hul hvl hus hvs hm
        go_upto_region 5 with (fail)
        go_cut [9] (fun v wx => v = .int .i64 (m : Nat) ∧ wr = wx)
        case first =>
          by_cases hc : (t.size : Int) ≤ 64 - A % 64
          · have HE := Box.mk (show m = t.size by have := HMM.out; omega)
            go_wp2_with fail
            go_meet
            exact ⟨by rw [HE.out], rfl⟩
          · have HE := Box.mk (show 64 - A % 64 = (m : Int) by have := HMM.out; omega)
            go_wp2_with fail
            go_meet
            exact ⟨by rw [HE.out], rfl⟩
        case rest =>
          obtain ⟨rfl, rfl⟩ := hcut
          have hmI : (m : Int) ≤ (t.size : Int) := by omega
          go_upto_region 6 with (fail)
          go_still_tail 8, (by kernel_rfl)
          change wpList _ _ _ _ _ wr.drew
          go_wp2_with fail
          refine (PR.out _ (HF.out.upd (Upd.refl [] _).drew (by simp) (by simp) (by simp))).mono ?_
          rintro e w2 ⟨rfl, hf2, hu2⟩
          have HF2 := Box.mk hf2; have HU2 := Box.mk ((HU.out.trans (Upd.refl [p, bb] wr).drew).trans hu2); clear hf2 hu2
          obtain ⟨r1, r2⟩ := r
          dsimp only at PR OK2 N2 hpw HF2 ⊢
          by_cases hr : r2 = 0
          · rw [if_neg (by simpa using hr)] at hpw
            have hrb : (r2 != 0) = false := by simpa using hr
            have HPW := Box.mk hpw
            have hwA : IntKind.i64.wrap (A + (m : Int)) = A + (m : Int) := by rw [IntKind.wrap_i64]; omega
            clear hpw hr PR
            go_wp2_with fail
            go_quiet (fail)
            go_wp2_with fail
            refine ⟨⟨t.extract m t.size, r1, A + m, k', rfl, rfl, by rw [HVS.out]; omega, HPW.out, HF2.out.upd ((Upd.refl [] _).drewN _) (by simp) (by simp) (by simp), OK2.out, by rw [N2.out]; exact hn, by omega, by rw [HVS.out]; omega, HU2.out.drewN _⟩, by show (t.extract m t.size).size < t.size; rw [HVS.out]; omega⟩
          · rw [if_pos (by simpa using hr)] at hpw
            have hrb : (r2 != 0) = true := by rw [bne_iff_ne]; exact hr
            have HPW := Box.mk hpw
            clear hpw hr PR
            go_wp2_with fail
            go_ret
            obtain ⟨rfl⟩ := HPW
            exact ⟨rfl, HF2.out, HU2.out⟩
  · have hb' : inB B at_ str.size = false := by simpa using hb
    have E : Box (s.pwrite F B at_ str.data.toList = (s, 121)) := ⟨by unfold FS.pwrite; rw [hlen, hb']; rfl⟩
    obtain ⟨R, hR⟩ : ∃ R, R = s.pwrite F B at_ str.data.toList := ⟨_, rfl⟩
    rw [← hR] at E ⊢
    obtain ⟨rfl⟩ := E
    have HF := Box.mk hf
    rw [hb'] at PL
    clear hR hlen hf h hok hi hs ba hb hb'
    go_enter Tryz.func55, Tryz.ntmps55
    go_wp2_with fail
    refine PL.out.mono ?_
    rintro e w1 ⟨⟨x, rfl, hx⟩, rfl⟩
    clear PL hx
    go_wp2_with fail
    go_ret
    exact ⟨rfl, HF.out, Upd.refl _ _⟩
end Go.Proofs.YtjednaendedpdaaGreat
namespace Go.Proofs.YtjednaendedpdaaGreat
set_option maxRecDepth 100000
set_option linter.unusedVariables false
open Go Go.RowKit

theorem belD {B : Nat} {a w : World} (h : Below B a w) (n : Nat) : Below B a (w.drewN n) := ⟨h.os, h.tape, h.output, h.size, h.block⟩
set_option maxHeartbeats 2000000 in
theorem pnew_yes (p bb cb : Nat) (F B : Int) (s : FS) (w : World) (hf : Fl 89 w p bb cb s) (hi : In s.n.length F B) :
    Calls Tryz.prog 25 #[.pointer (some ⟨p, 0, none⟩), .agg #[.int .i64 F, .int .i64 B]] w fun e w' => ∃ q, e = .returned (.tuple #[.pointer (some ⟨q, 0, none⟩), .int .i64 0]) ∧ Pa w' q p F B ∧ w.heap.size ≤ q ∧ Below w.heap.size w w' := by
  have h1 : decide (F < 0) = false := by rw [decide_eq_false_iff_not]; have := hi.lo; omega
  have h2 : decide (B < 1) = false := by rw [decide_eq_false_iff_not]; have := hi.some; omega
  obtain ⟨n, hn⟩ : ∃ n, n = s.n.length := ⟨_, rfl⟩
  have h3 : decide ((n : Int) < F) = false := by rw [decide_eq_false_iff_not]; have := hi.hi; have := hi.some; omega
  have hw : IntKind.i64.wrap ((n : Int) - F) = (n : Int) - F := by rw [IntKind.wrap_i64]; have := hi.hi; have := hi.lo; have := hi.few; have := hi.some; omega
  have h4 : decide ((n : Int) - F < B) = false := by rw [decide_eq_false_iff_not]; have := hi.hi; omega
  obtain ⟨w1, hw1⟩ : ∃ w1, w1 = w.alloc (.cells #[.int .i64 F, .int .i64 B] 36) := ⟨_, rfl⟩
  have hb1 : Below w.heap.size w w1 := by rw [hw1]; exact (Below.refl _ _).alloc (Nat.le_refl _) _
  have r1 : w1.heap[w.heap.size]? = some (.cells #[.int .i64 F, .int .i64 B] 36 (0, 0)) := by rw [hw1]; exact heap_alloc_new _ _
  have c0 : w1.cell? ⟨w.heap.size, 0, none⟩ = some (.int .i64 F) := (cell_of_row _ _ _ _ _ _ r1).trans rfl
  have c1 : w1.cell? ⟨w.heap.size, 1, none⟩ = some (.int .i64 B) := (cell_of_row _ _ _ _ _ _ r1).trans rfl
  have BL := Box.mk (fun k => blocks_any p bb cb s (w1.drewN k) (((hf.upd (Upd.of_below hb1) (S := []) (by simp) (by simp) (by simp))).upd ((Upd.refl [] _).drewN k) (by simp) (by simp) (by simp)))
  rw [← hn] at BL
  have B1 := Box.mk hb1
  clear hn hf hi r1 hb1
  go_enter Tryz.func25, Tryz.ntmps25
  go_upto_region 1 with (fail)
  rw [← hw1]
  clear hw1
  go_quiet ((go_at_call 57; exact quiet_calls (BL.out _)))
  have C0 : (w1.drewN nq).cell? ⟨w.heap.size, 0, none⟩ = some (.int .i64 F) := c0
  have C1 : (w1.drewN nq).cell? ⟨w.heap.size, 1, none⟩ = some (.int .i64 B) := c1
  have B2 := Box.mk (belD B1.out nq)
  clear c0 c1 BL B1
  generalize w1.drewN nq = w2 at C0 C1 B2 ⊢
  go_wp2_with fail
  go_ret2
  exact ⟨w2.heap.size, rfl, ⟨heap_alloc_new _ _⟩, B2.out.size, B2.out.alloc B2.out.size _⟩
set_option maxHeartbeats 2000000 in
theorem pnew_no (p bb cb : Nat) (F B : Int) (s : FS) (w : World) (hf : Fl 89 w p bb cb s) (hok : s.Ok) (hi : ¬ In s.n.length F B) (bF : -9223372036854775808 ≤ F ∧ F ≤ 9223372036854775807) :
    Calls Tryz.prog 25 #[.pointer (some ⟨p, 0, none⟩), .agg #[.int .i64 F, .int .i64 B]] w fun e w' => e = .returned (.tuple #[.pointer none, .int .i64 120]) ∧ Below w.heap.size w w' := by
  have hfew := hok.few
  obtain ⟨n, hn⟩ : ∃ n, n = s.n.length := ⟨_, rfl⟩
  have hi' : ¬ (0 ≤ F ∧ 1 ≤ B ∧ F + B ≤ (n : Int)) := fun ⟨a, b, c⟩ => hi ⟨a, b, by rw [← hn]; exact c, hfew.2⟩
  rw [← hn] at hfew
  obtain ⟨w1, hw1⟩ : ∃ w1, w1 = w.alloc (.cells #[.int .i64 F, .int .i64 B] 36) := ⟨_, rfl⟩
  have hb1 : Below w.heap.size w w1 := by rw [hw1]; exact (Below.refl _ _).alloc (Nat.le_refl _) _
  have r1 : w1.heap[w.heap.size]? = some (.cells #[.int .i64 F, .int .i64 B] 36 (0, 0)) := by rw [hw1]; exact heap_alloc_new _ _
  have c0 : w1.cell? ⟨w.heap.size, 0, none⟩ = some (.int .i64 F) := (cell_of_row _ _ _ _ _ _ r1).trans rfl
  have c1 : w1.cell? ⟨w.heap.size, 1, none⟩ = some (.int .i64 B) := (cell_of_row _ _ _ _ _ _ r1).trans rfl
  have BL := Box.mk (fun k => blocks_any p bb cb s (w1.drewN k) (((hf.upd (Upd.of_below hb1) (S := []) (by simp) (by simp) (by simp))).upd ((Upd.refl [] _).drewN k) (by simp) (by simp) (by simp)))
  rw [← hn] at BL
  have B1 := Box.mk hb1
  clear hn hf hi r1 hb1 hok
  by_cases g1 : F < 0
  · have h1 : decide (F < 0) = true := by simpa using g1
    clear hi' g1
    go_enter Tryz.func25, Tryz.ntmps25
    go_upto_region 1 with (fail)
    rw [← hw1]
    clear hw1
    go_quiet ((go_at_call 57; exact quiet_calls (BL.out _)))
    have B2 := Box.mk (belD B1.out nq)
    clear c0 c1 BL B1
    go_wp2_with fail
    go_ret2
    exact ⟨rfl, B2.out⟩
  · have h1 : decide (F < 0) = false := by simpa using g1
    by_cases g2 : B < 1
    · have h2 : decide (B < 1) = true := by simpa using g2
      clear hi' g1 g2
      go_enter Tryz.func25, Tryz.ntmps25
      go_upto_region 1 with (fail)
      rw [← hw1]
      clear hw1
      go_quiet ((go_at_call 57; exact quiet_calls (BL.out _)))
      have B2 := Box.mk (belD B1.out nq)
      clear c0 c1 BL B1
      go_wp2_with fail
      go_ret2
      exact ⟨rfl, B2.out⟩
    · have h2 : decide (B < 1) = false := by simpa using g2
      by_cases g3 : (n : Int) < F
      · have h3 : decide ((n : Int) < F) = true := by simpa using g3
        clear hi' g1 g2 g3
        go_enter Tryz.func25, Tryz.ntmps25
        go_upto_region 1 with (fail)
        rw [← hw1]
        clear hw1
        go_quiet ((go_at_call 57; exact quiet_calls (BL.out _)))
        have B2 := Box.mk (belD B1.out nq)
        clear c0 c1 BL B1
        go_wp2_with fail
        go_ret2
        exact ⟨rfl, B2.out⟩
      · have h3 : decide ((n : Int) < F) = false := by simpa using g3
        have hw : IntKind.i64.wrap ((n : Int) - F) = (n : Int) - F := by rw [IntKind.wrap_i64]; omega
        have h4 : decide ((n : Int) - F < B) = true := by rw [decide_eq_true_eq]; omega
        clear hi' g1 g2 g3
        go_enter Tryz.func25, Tryz.ntmps25
        go_upto_region 1 with (fail)
        rw [← hw1]
        clear hw1
        go_quiet ((go_at_call 57; exact quiet_calls (BL.out _)))
        have B2 := Box.mk (belD B1.out nq)
        clear c0 c1 BL B1
        go_wp2_with fail
        go_ret2
        exact ⟨rfl, B2.out⟩
end Go.Proofs.YtjednaendedpdaaGreat
namespace Go.Proofs.YtjednaendedpdaaGreat
set_option maxRecDepth 100000
set_option linter.unusedVariables false
open Go Go.RowKit

/-- The first t regions' cells. -/
def rgl (S L : Nat → Nat) (t : Nat) : List Value := (List.range t).flatMap fun j => [.int .i64 (S j : Nat), .int .i64 (L j : Nat)]
theorem rgl_zero (S L : Nat → Nat) : rgl S L 0 = [] := rfl
theorem rgl_succ (S L : Nat → Nat) (t : Nat) : rgl S L (t + 1) = rgl S L t ++ [.int .i64 (S t : Nat), .int .i64 (L t : Nat)] := by
  unfold rgl; rw [List.range_succ, List.flatMap_append]; simp
theorem info_tre : (Tryz.prog.info? 36).map (fun i => (i.zero, i.size, i.bytes)) = some (some (.agg #[.int .i64 0, .int .i64 0]), 2, 16) := by kernel_rfl
/-- Four regions lie in a row. -/
structure Four (w : World) (v : Value) (S L : Nat → Nat) : Prop where
  at_ : ∃ g cap, v = .slice (some ⟨g, 0, none⟩) 4 cap ∧ g < w.heap.size ∧ 4 ≤ cap ∧ ∀ j, j < 4 → w.cell? ⟨g, 2 * j, none⟩ = some (.int .i64 (S j : Nat)) ∧ w.cell? ⟨g, 2 * j + 1, none⟩ = some (.int .i64 (L j : Nat))
theorem Four.below {w w' : World} {v : Value} {S L : Nat → Nat} (h : Four w v S L) (hb : Below w.heap.size w w') : Four w' v S L := by
  obtain ⟨g, cap, hv, hg, hc, h4⟩ := h.at_
  exact ⟨g, cap, hv, Nat.lt_of_lt_of_le hg hb.size, hc, fun j hj => ⟨(hb.cell (p := ⟨g, _, none⟩) hg).trans (h4 j hj).1, (hb.cell (p := ⟨g, _, none⟩) hg).trans (h4 j hj).2⟩⟩
theorem own_alloc {w : World} {base size n : Nat} {e : TypeId} {v : Value} {xs : List Value} (h : w.ownsRow base e size v n xs) (o : Obj) : (w.alloc o).ownsRow base e size v n xs := by
  refine ⟨h.1, ?_⟩
  rcases h.2 with h' | ⟨g, cap, cur, a, b, c, d⟩
  · exact .inl h'
  · exact .inr ⟨g, cap, cur, a, b, (heap_alloc_old _ _ (Array.getElem?_eq_some_iff.1 c).1).trans c, d⟩
theorem own_lt {w : World} {base size n : Nat} {e : TypeId} {v : Value} {xs : List Value} (h : w.ownsRow base e size v n xs) : ∀ k, v.ownBlock = some k → base ≤ k := by
  intro k hk
  rcases h.2 with ⟨rfl, _⟩ | ⟨g, cap, cur, rfl, b, _⟩
  · simp [Value.ownBlock] at hk
  · simp [Value.ownBlock] at hk; omega
theorem two_newR (w : World) (x y : Value) (t : TypeId) : ∀ (j : Nat) (u : Value), [x, y][j]? = some u → (w.alloc (.cells #[x, y] t)).cell? ((⟨w.heap.size, 0, none⟩ : Addr).add j) = some u := by
  intro j u hj
  rw [show ((⟨w.heap.size, 0, none⟩ : Addr).add j) = ⟨w.heap.size, j, none⟩ from by unfold Addr.add; split <;> simp_all, cell_of_row _ _ _ _ _ _ (heap_alloc_new w _)]
  match j, hj with
  | 0, hj => exact hj
  | 1, hj => exact hj
  | j + 2, hj => simp at hj
theorem two_oneR (x y : Int) : ∀ u ∈ [Value.int .i64 x, Value.int .i64 y], u.oneCell' = true := by
  intro u hu
  simp at hu
  rcases hu with rfl | rfl <;> rfl
theorem rgl_len (S L : Nat → Nat) : ∀ n, (rgl S L n).length = 2 * n
  | 0 => rfl
  | n + 1 => by rw [rgl_succ, List.length_append, rgl_len S L n]; simp; omega
theorem rgl_at (S L : Nat → Nat) : ∀ n j, j < n → (rgl S L n)[2 * j]? = some (.int .i64 (S j : Nat)) ∧ (rgl S L n)[2 * j + 1]? = some (.int .i64 (L j : Nat))
  | 0, j, h => by omega
  | n + 1, j, h => by
    have hl := rgl_len S L n
    rw [rgl_succ]
    by_cases hj : j < n
    · obtain ⟨h1, h2⟩ := rgl_at S L n j hj
      rw [List.getElem?_append_left (by omega), List.getElem?_append_left (by omega)]
      exact ⟨h1, h2⟩
    · obtain rfl : j = n := by omega
      rw [List.getElem?_append_right (by omega), List.getElem?_append_right (by omega), hl, Nat.sub_self, show 2 * j + 1 - 2 * j = 1 by omega]
      exact ⟨rfl, rfl⟩
theorem four_of {w : World} {base : Nat} {v : Value} {S L : Nat → Nat} (h : w.ownsRow base 36 2 v 4 (rgl S L 4)) (hn : v ≠ .slice none 0 0) : Four w v S L := by
  rcases h.2 with ⟨rfl, _⟩ | ⟨g, cap, cur, rfl, hb, hg, hc, _, hsz, ht⟩
  · exact absurd rfl hn
  · refine ⟨g, cap, rfl, (Array.getElem?_eq_some_iff.1 hg).1, hc, fun j hj => ?_⟩
    obtain ⟨h1, h2⟩ := rgl_at S L 4 j hj
    rw [← ht, List.getElem?_take, if_pos (by omega)] at h1 h2
    rw [cell_of_row _ _ _ _ _ _ hg, cell_of_row _ _ _ _ _ _ hg]
    exact ⟨by simpa using h1, by simpa using h2⟩
/-- The parts' lengths, and where each begins. -/
def plL (n j : Nat) : Nat := let f := (n - 2) / 3; let s := (n - 2 - f) / 2; if j = 0 then 2 else if j = 1 then f else if j < 4 then s else 0
def plS (n : Nat) : Nat → Nat
  | 0 => 0
  | j + 1 => plS n j + plL n j
theorem plS_le (n : Nat) (h2 : n ≤ 256) : ∀ j, j ≤ 4 → plS n j ≤ 1024
  | 0, _ => by simp [plS]
  | j + 1, h => by
    have h1 : ∀ j, plL n j ≤ 256 := fun j => by unfold plL; simp only; (repeat' split) <;> omega
    have : ∀ j, plS n j ≤ 256 * j := fun j => by
      induction j with
      | zero => simp [plS]
      | succ j ih => rw [plS]; have := h1 j; omega
    have := this (j + 1); omega
end Go.Proofs.YtjednaendedpdaaGreat
namespace Go.Proofs.YtjednaendedpdaaGreat
set_option maxRecDepth 100000
set_option linter.unusedVariables false
open Go Go.RowKit

@[irreducible] def pb0 : List UInt8 := List.replicate 1536 255
@[irreducible] def pb1 : List UInt8 := progBytes pb0 572 [97, 98, 99, 100] false 0 0
@[irreducible] def pb2 : List UInt8 := progBytes pb1 576 [101, 102, 103, 104] false 0 0
theorem pb0_len : pb0.length = 1536 := by unfold pb0; rw [List.length_replicate]
theorem pb1_len : pb1.length = 1536 := by unfold pb1; rw [progBytes_length, pb0_len]
theorem pb2_len : pb2.length = 1536 := by unfold pb2; rw [progBytes_length, pb1_len]
def abc8 : ByteArray := ⟨#[97, 98, 99, 100, 101, 102, 103, 104]⟩
def px0 : FS := { b := pb0, n := [0, 0, 0], steps := 0, armed := 0, keep := 0, mask := 0, dead := false }
def pxm : FS := { px0 with b := pb1, steps := 1 }
def px1 : FS := { px0 with b := pb2, steps := 2 }
theorem px_new : FS.new (List.replicate (512 * 3) 255) = px0 := by
  unfold FS.new px0 pb0; rw [List.length_replicate]; kernel_rfl
theorem px0_ok : px0.Ok := ⟨by decide, by decide, pb0_len, by decide⟩
theorem px1_ok : px1.Ok := ⟨by decide, by decide, pb2_len, by decide⟩
theorem px_a : px0.program 572 [97, 98, 99, 100] = (pxm, 0) := by
  have h := FS.program_go px0 572 [97, 98, 99, 100] rfl (by simp) (by show _ ≤ pb0.length; rw [pb0_len]; decide) (by decide)
  exact h.trans (by kernel_rfl)
theorem px_b : pxm.program 576 [101, 102, 103, 104] = (px1, 0) := by
  have h := FS.program_go pxm 576 [101, 102, 103, 104] rfl (by simp) (by show _ ≤ pb1.length; rw [pb1_len]; decide) (by decide)
  exact h.trans (by kernel_rfl)
theorem px_w : px0.pwrite 1 2 60 abc8.data.toList = (px1, 0) := by
  have hb : inB 2 60 (abc8.data.toList.length : Nat) = true := by unfold inB; decide
  unfold FS.pwrite
  rw [if_pos hb]
  show FS.pw 8 px0 572 [97, 98, 99, 100, 101, 102, 103, 104] = _
  rw [FS.pw_step _ _ _ _ (by simp)]
  rw [show min ([97, 98, 99, 100, 101, 102, 103, 104] : List UInt8).length (64 - ((572 : Int) % 64).toNat) = 4 from by decide]
  rw [show ([97, 98, 99, 100, 101, 102, 103, 104] : List UInt8).take 4 = [97, 98, 99, 100] from rfl, show ([97, 98, 99, 100, 101, 102, 103, 104] : List UInt8).drop 4 = [101, 102, 103, 104] from rfl, px_a, if_neg (by simp)]
  show FS.pw 7 pxm 576 [101, 102, 103, 104] = _
  rw [FS.pw_step _ _ _ _ (by simp)]
  rw [show min ([101, 102, 103, 104] : List UInt8).length (64 - ((576 : Int) % 64).toNat) = 4 from by decide]
  rw [show ([101, 102, 103, 104] : List UInt8).take 4 = [101, 102, 103, 104] from rfl, show ([101, 102, 103, 104] : List UInt8).drop 4 = [] from rfl, px_b, if_neg (by simp), FS.pw_nil]
theorem px0_in : In px0.n.length 1 2 := ⟨by decide, by decide, by decide, by decide⟩
theorem px1_in : In px1.n.length 1 2 := ⟨by decide, by decide, by decide, by decide⟩
theorem px0_no : ¬ In px0.n.length 2 2 := fun h => absurd h.hi (by decide)
theorem px_w2 : px1.pwrite 1 2 1020 abc8.data.toList = (px1, 121) := by
  have : inB 2 1020 (abc8.data.toList.length : Nat) = false := by unfold inB; decide
  unfold FS.pwrite; rw [this]; rfl
theorem pb0_at (k : Nat) (h : k < 1536) : pb0[k]? = some 255 := by rw [pb0, List.getElem?_replicate, if_pos h]
theorem pb2_mid (j : Nat) (h : j < 8) : pb2[572 + j]? = abc8.data.toList[j]? := by
  match j, h with
  | 0, _ => rw [pb2, progBytes_at, pb1, progBytes_at, pb0_at _ (by omega)]; decide
  | 1, _ => rw [pb2, progBytes_at, pb1, progBytes_at, pb0_at _ (by omega)]; decide
  | 2, _ => rw [pb2, progBytes_at, pb1, progBytes_at, pb0_at _ (by omega)]; decide
  | 3, _ => rw [pb2, progBytes_at, pb1, progBytes_at, pb0_at _ (by omega)]; decide
  | 4, _ => rw [pb2, progBytes_at, pb1, progBytes_at, pb0_at _ (by omega)]; decide
  | 5, _ => rw [pb2, progBytes_at, pb1, progBytes_at, pb0_at _ (by omega)]; decide
  | 6, _ => rw [pb2, progBytes_at, pb1, progBytes_at, pb0_at _ (by omega)]; decide
  | 7, _ => rw [pb2, progBytes_at, pb1, progBytes_at, pb0_at _ (by omega)]; decide
theorem px_rd : readV px1 572 8 = .tuple #[.string abc8, .int .i64 0] := by
  have h2 : onB px1.b.length 572 8 = true := by unfold onB; rw [decide_eq_true_iff]; show _ ∧ _ ∧ _ ≤ ((pb2.length : Nat) : Int); rw [pb2_len]; decide
  have h3 : (px1.b.drop (572 : Int).toNat).take (8 : Int).toNat = abc8.data.toList := by
    show (pb2.drop 572).take 8 = _
    apply List.ext_getElem?
    intro i
    rw [List.getElem?_take, List.getElem?_drop]
    by_cases h : i < 8
    · rw [if_pos h, pb2_mid i h]
    · rw [if_neg h, List.getElem?_eq_none (by show 8 ≤ i; omega)]
  unfold readV
  rw [if_neg (by decide), if_pos h2, h3]
theorem px_cl : pcleanV px1 1 2 0 60 = (true, 0) := by
  have h2 : inB 2 0 60 = true := by unfold inB; decide
  have h3 : (px1.b.drop (512 * 1 + 0 : Int).toNat).take (60 : Int).toNat = List.replicate 60 255 := by
    show (pb2.drop 512).take 60 = _
    apply List.ext_getElem?
    intro i
    rw [List.getElem?_take, List.getElem?_drop, List.getElem?_replicate]
    by_cases h : i < 60
    · rw [if_pos h, if_pos h, pb2, progBytes_get _ _ _ _ _ _ _ (.inr (by omega)), pb1, progBytes_get _ _ _ _ _ _ _ (.inr (by omega)), pb0_at _ (by omega)]
    · rw [if_neg h, if_neg h]
  have e : preadV px1 1 2 0 60 = (⟨(List.replicate 60 255).toArray⟩, 0) := by unfold preadV; rw [if_pos h2, if_neg (by decide), h3]
  unfold pcleanV
  rw [e]
  decide
end Go.Proofs.YtjednaendedpdaaGreat
