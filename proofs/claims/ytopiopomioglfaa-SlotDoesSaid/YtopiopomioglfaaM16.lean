/- Arguments that are scripts, of other calls: which, a number, how a step is torn, bytes. The slots' laws: the argument that is an image and a script; what was written is read. Images in slots, the document's: how its writer lies in memory; a page. Numbers of five digits of base 2^32: plain laws. Nothing of the program. The document of sha2: a number of five digits: grow, plus, less. The document of sha2: a number of five digits: less, below. -/
import Derived.Test.YtopiopomioglfaaM14
import Derived.Test.YtopiopomioglfaaM15
import Derived.Test.YtopiopomioglfaaM04
import Derived.Test.YtopiopomioglfaaM13
import Derived.Test.YtopiopomioglfaaM01
import Derived.Test.YtopiopomioglfaaRows
import Derived.Test.YtopiopomioglfaaM05
namespace Go.Proofs.Ytopiopomioglfaa
set_option maxRecDepth 100000
open Go Go.RowKit Go.ChangeShapes Go.WideShapes Go.Deep
set_option linter.unusedVariables false

/-- A call of a script. -/
structure OpS where
  k : Int
  n : Int
  a : Int
  m : UInt8
  s : ByteArray
structure OpS.Ok (o : OpS) : Prop where
  k : -9223372036854775808 ≤ o.k ∧ o.k ≤ 9223372036854775807
  a : -9223372036854775808 ≤ o.a ∧ o.a ≤ 9223372036854775807
  n : -9223372036854775808 ≤ o.n ∧ o.n ≤ 9223372036854775807
  s : o.s.size ≤ maxLen
/-- It lies at p. -/
structure OpAtS (w : World) (p : Addr) (o : OpS) : Prop where
  k : w.cell? p = some (.int .i64 o.k)
  n : w.cell? (p.add 1) = some (.int .i64 o.n)
  a : w.cell? (p.add 2) = some (.int .i64 o.a)
  m : w.cell? (p.add 3) = some (.int .u8 (o.m.toNat : Int))
  s : w.cell? (p.add 4) = some (.string o.s)
  ok : o.Ok
/-- The slice sl holds the calls of l. -/
def ScriptS (w : World) (sl : Value) (l : List OpS) : Prop :=
  ∃ (ao : Option Addr) (cap : Nat), sl = .slice ao l.length cap ∧ l.length ≤ maxLen ∧ ∀ i o, l[i]? = some o → ∃ a, ao = some a ∧ OpAtS w (a.add (i * 5)) o

theorem ScriptS.of_reads {H : Type} {enc : TypeId × Value → H} {P : Program} {w : World} {base : Nat} {spare : Nat → Bool} {held : Bool} {t e ti ts tb : TypeId} {v : Value} {n0 n1 n2 n3 n4 : Field}
    (ht : P.underlying t = some (.slice e)) (he : P.underlying e = some (.struct #[n0, n1, n2, n3, n4])) (hone : oneCellFields P #[n0, n1, n2, n3, n4] = true) (hC : P.cellsOf e = 5)
    (h0 : n0.type = ti) (h1 : n1.type = ti) (h2 : n2.type = ti) (h3 : n3.type = tb) (h4 : n4.type = ts)
    (hti : P.underlying ti = some (.int .i64)) (hts : P.underlying ts = some .string) (htb : P.underlying tb = some (.int .u8))
    (h : Reads enc P w base spare held t v) : ∃ l, ScriptS w v l := by
  rcases Reads.slice ht he hone hC h with rfl | ⟨a, len, cap, rfl, hb, hl, hm, hi⟩
  · exact ⟨[], none, 0, rfl, Nat.zero_le _, fun i o h => by simp at h⟩
  · have hex : ∀ i, i < len → ∃ o, OpAtS w (a.add (i * 5)) o := by
      intro i hil
      obtain ⟨c0, g0, r0⟩ := hi i hil 0 _ rfl
      obtain ⟨c1, g1, r1⟩ := hi i hil 1 _ rfl
      obtain ⟨c2, g2, r2⟩ := hi i hil 2 _ rfl
      obtain ⟨c3, g3, r3⟩ := hi i hil 3 _ rfl
      obtain ⟨c4, g4, r4⟩ := hi i hil 4 _ rfl
      have r0 := h0 ▸ r0; have r1 := h1 ▸ r1; have r2 := h2 ▸ r2; have r3 := h3 ▸ r3; have r4 := h4 ▸ r4
      obtain ⟨k, rfl, wk⟩ := r0.int hti
      obtain ⟨n, rfl, wn⟩ := r1.int hti
      obtain ⟨x, rfl, wx⟩ := r2.int hti
      obtain ⟨m, rfl, wm⟩ := r3.int htb
      obtain ⟨s, rfl, ws⟩ := r4.string hts
      have bm := bounds_u8 wm
      have em : m = ((UInt8.ofNat m.toNat).toNat : Int) := by rw [UInt8.toNat_ofNat']; omega
      have ha : ∀ j, (a.add (i * 5)).add j = a.add (i * 5 + j) := fun j => Go.Deep.add_add a _ _
      refine ⟨⟨k, n, x, UInt8.ofNat m.toNat, s⟩, ⟨by simpa using g0, by rw [ha]; simpa using g1, by rw [ha]; simpa using g2, by rw [ha, ← em]; simpa using g3, by rw [ha]; simpa using g4, ⟨bounds_i64 wk, bounds_i64 wx, bounds_i64 wn, ws⟩⟩⟩
    obtain ⟨l, hll, hP⟩ := exists_list (fun i o => OpAtS w (a.add (i * 5)) o) _ hex
    exact ⟨l, some a, cap, by rw [hll], by omega, fun i o h => ⟨a, rfl, hP i o h⟩⟩
/-- The cells in the walk's own spelling. -/
theorem OpAtS.flat {w : World} {p : Addr} {o : OpS} (h : OpAtS w p o) : w.cell? p = some (.int .i64 o.k) ∧ w.cell? ⟨p.block, p.off + 1, none⟩ = some (.int .i64 o.n) ∧ w.cell? ⟨p.block, p.off + 2, none⟩ = some (.int .i64 o.a) ∧
    w.cell? ⟨p.block, p.off + 3, none⟩ = some (.int .u8 (o.m.toNat : Int)) ∧ w.cell? ⟨p.block, p.off + 4, none⟩ = some (.string o.s) := ⟨h.k, h.n, h.a, h.m, h.s⟩
theorem OpAtS.lt {w : World} {p : Addr} {o : OpS} (h : OpAtS w p o) : p.block < w.heap.size := World.block_lt_of_cell? w p h.k
theorem OpAtS.below {B : Nat} {w w' : World} {p : Addr} {o : OpS} (h : OpAtS w p o) (hb : Below B w w') (hp : p.block < B) : OpAtS w' p o := by
  have hq : ∀ j, (p.add j).block = p.block := by intro j; unfold Addr.add; split <;> rfl
  exact ⟨(hb.cell hp).trans h.k, (hb.cell (by rw [hq]; exact hp)).trans h.n, (hb.cell (by rw [hq]; exact hp)).trans h.a, (hb.cell (by rw [hq]; exact hp)).trans h.m, (hb.cell (by rw [hq]; exact hp)).trans h.s, h.ok⟩
theorem ScriptS.below {w w' : World} {sl : Value} {l : List OpS} (h : ScriptS w sl l) (hb : Below w.heap.size w w') : ScriptS w' sl l := by
  obtain ⟨ao, cap, h1, h2, h3⟩ := h
  exact ⟨ao, cap, h1, h2, fun i o hi => by obtain ⟨a, e, ha⟩ := h3 i o hi; exact ⟨a, e, ha.below hb ha.lt⟩⟩
end Go.Proofs.Ytopiopomioglfaa
namespace Go.Proofs.Ytopiopomioglfaa
set_option maxRecDepth 100000
open Go Go.RowKit Go.ChangeShapes Go.WideShapes Go.Deep
set_option linter.unusedVariables false

theorem agg2 {cs : Array Value} {a b : Value} (h : cs.size = 2) (h0 : cs[0]? = some a) (h1 : cs[1]? = some b) : cs = #[a, b] := by
  obtain ⟨l⟩ := cs
  match l, h with
  | [x0, x1], _ => simp at h0 h1; simp_all
theorem open_vw {H : Type} {enc : TypeId × Value → H} {w : World} {base : Nat} {spare : Nat → Bool} {held : Bool} {v : Value} {d : DataW H} {p : List MemPlace}
    (hv : Value.okWide Try.prog w .any base 40 v) (h : DataW.Trod enc Try.prog w 0 spare held 40 v d p) :
    ∃ (im : ByteArray) (sl : Value) (l : List OpS), v = .agg #[.string im, sl] ∧ im.size ≤ maxLen ∧ ScriptS w sl l := by
  obtain ⟨cs, rfl, hsz, hf⟩ := read_struct Try.underlying40 (by kernel_rfl) (by kernel_rfl) hv h
  obtain ⟨c0, e0, r0⟩ := hf 0 _ rfl
  obtain ⟨c1, e1, r1⟩ := hf 1 _ rfl
  obtain ⟨im, rfl, wim⟩ := r0.string Try.underlying9
  obtain ⟨l, hl⟩ := ScriptS.of_reads Try.underlying38 Try.underlying42 (by kernel_rfl) (by kernel_rfl) rfl rfl rfl rfl rfl Try.underlying3 Try.underlying9 Try.underlying5 r1
  exact ⟨im, c1, l, by rw [agg2 hsz e0 e1], wim, hl⟩
/-- The argument's block. -/
structure ArgV (w wr : World) (im : ByteArray) (sl : Value) : Prop where
  g : wr.heap[w.heap.size]? = some (.cells #[.string im, sl] 40 (0, 0))
  b : Below w.heap.size w wr
theorem ArgV.cells {w wr : World} {im : ByteArray} {sl : Value} (h : ArgV w wr im sl) : wr.cell? ⟨w.heap.size, 0, none⟩ = some (.string im) ∧ wr.cell? ⟨w.heap.size, 1, none⟩ = some sl := by
  constructor <;> (rw [cell_of_row _ _ _ _ _ _ h.g]; rfl)
theorem ArgV.upd {w wr w' : World} {im : ByteArray} {sl : Value} (h : ArgV w wr im sl) {S : List Nat} (hu : Upd S wr w') (hS : ∀ i, i ∈ S → w.heap.size < i) : ArgV w w' im sl := by
  have hl := (Array.getElem?_eq_some_iff.1 h.g).1
  exact ⟨(hu.block _ hl (fun hm => by have := hS _ hm; omega)).trans h.g, Upd.below h.b hu (fun i hi => by have := hS i hi; omega) h.b.size⟩
theorem ArgV.start (w : World) (im : ByteArray) (sl : Value) : ArgV w (w.alloc (.cells #[.string im, sl] 40)) im sl := ⟨heap_alloc_new _ _, (Below.refl _ _).alloc (Nat.le_refl _) _⟩
/-- A call of the script in a block of its own. -/
def obS (o : OpS) : Obj := .cells #[.int .i64 o.k, .int .i64 o.n, .int .i64 o.a, .int .u8 (o.m.toNat : Int), .string o.s] 42
theorem obS_cells {w : World} {k : Nat} {o : OpS} (h : w.heap[k]? = some (obS o)) : w.cell? ⟨k, 0, none⟩ = some (.int .i64 o.k) ∧ w.cell? ⟨k, 1, none⟩ = some (.int .i64 o.n) ∧ w.cell? ⟨k, 2, none⟩ = some (.int .i64 o.a) ∧ w.cell? ⟨k, 3, none⟩ = some (.int .u8 (o.m.toNat : Int)) ∧ w.cell? ⟨k, 4, none⟩ = some (.string o.s) := by
  unfold obS at h
  refine ⟨?_, ?_, ?_, ?_, ?_⟩ <;> (rw [cell_of_row _ _ _ _ _ _ h]; rfl)
theorem keep_obS {w w1 : World} {K : Nat} {o : OpS} {S : List Nat} (h : w.heap[K]? = some (obS o)) (hu : Upd S w w1) (hK : K ∉ S) : w1.heap[K]? = some (obS o) :=
  (hu.block _ (Array.getElem?_eq_some_iff.1 h).1 hK).trans h
theorem back_ok {s : FS} (h : s.Ok) : s.back.Ok := ⟨by simp [FS.back], h.keep, h.len, h.few⟩
theorem back_still (s : FS) : s.back.Still := ⟨rfl, rfl⟩
theorem arm_n (s : FS) (n k : Int) (m : UInt8) : (s.arm n k m).1.n = s.n := by
  unfold FS.arm
  (repeat' split) <;> rfl
theorem EndR.read {F B : Nat} {s0 s : FS} {all : List UInt8} (h : EndR F B s0 s all) (hF : F + B ≤ s.n.length) : preadV s F B 0 (all.length : Nat) = (⟨all.toArray⟩, 0) := by
  have := h.la.read B all.length hF (Nat.le_refl _) (Nat.le_refl _) h.le
  rw [List.take_length] at this
  exact this
theorem EndR.sread {F B : Nat} {s0 s : FS} {A : ByteArray} (h : EndR F B s0 s A.data.toList) (hF : F + B ≤ s.n.length) : sreadV s F B (A.size : Nat) = (A, 0) := by
  have hl : A.data.toList.length = A.size := by simp
  have h1 := h.read hF
  have h2 := h.le
  rw [hl] at h1 h2
  unfold sreadV
  rw [if_pos (by omega), h1]
theorem EndR.check {F B : Nat} {s0 s : FS} {A : ByteArray} (h : EndR F B s0 s A.data.toList) (hF : F + B ≤ s.n.length) : scheckV s F B (A.size : Nat) (sumS 0 A.data.toList) = 0 := by
  unfold scheckV
  rw [h.sread hF]
  dsimp only
  rw [if_neg (by simp), if_pos rfl]
end Go.Proofs.Ytopiopomioglfaa
namespace Go.Proofs.Ytopiopomioglfaa
set_option maxRecDepth 100000
set_option linter.unusedVariables false
open Go Go.RowKit

theorem Upd.gr {w w' : World} (u : Upd [] w w') : Gr w w' := ⟨u.os, u.tape, u.output, u.size, fun k hk => u.block k hk (by simp)⟩
/-- The cells of the document's writer. -/
def rwc (q : Nat) (A : ByteArray) (made came : Nat) (ended : Bool) (e : Int) : Array Value := #[.pointer (some ⟨q, 0, none⟩), .string A, .int .i64 made, .int .i64 came, .bool ended, .int .i64 e]
structure Rwr (w : World) (g q : Nat) (A : ByteArray) (made came : Nat) (ended : Bool) (e : Int) : Prop where
  row : w.heap[g]? = some (.cells (rwc q A made came ended e) 51 (0, 0))
theorem Rwr.lt {w : World} {g q : Nat} {A : ByteArray} {made came : Nat} {ended : Bool} {e : Int} (h : Rwr w g q A made came ended e) : g < w.heap.size := (Array.getElem?_eq_some_iff.1 h.row).1
theorem Rwr.upd {w w' : World} {g q : Nat} {A : ByteArray} {made came : Nat} {ended : Bool} {e : Int} {S : List Nat} (h : Rwr w g q A made came ended e) (hu : Upd S w w') (hn : g ∉ S) : Rwr w' g q A made came ended e := ⟨(hu.block _ h.lt hn).trans h.row⟩
theorem Rwr.cells {w : World} {g q : Nat} {A : ByteArray} {made came : Nat} {ended : Bool} {e : Int} (h : Rwr w g q A made came ended e) :
    w.cell? ⟨g, 0, none⟩ = some (.pointer (some ⟨q, 0, none⟩)) ∧ w.cell? ⟨g, 1, none⟩ = some (.string A) ∧ w.cell? ⟨g, 2, none⟩ = some (.int .i64 made) ∧ w.cell? ⟨g, 3, none⟩ = some (.int .i64 came) ∧ w.cell? ⟨g, 4, none⟩ = some (.bool ended) ∧ w.cell? ⟨g, 5, none⟩ = some (.int .i64 e) := by
  refine ⟨?_, ?_, ?_, ?_, ?_, ?_⟩ <;> (rw [cell_of_row _ _ _ _ _ _ h.row]; rfl)
theorem Rwr.free {w : World} {g q : Nat} {A : ByteArray} {made came : Nat} {ended : Bool} {e : Int} (h : Rwr w g q A made came ended e) (i : Nat) : w.frozen? ⟨g, i, none⟩ = false := frozen_of_row _ _ _ _ _ h.row
theorem Rwr.set1 {w : World} {g q : Nat} {A : ByteArray} {made came : Nat} {ended : Bool} {e : Int} (h : Rwr w g q A made came ended e) (v : ByteArray) : Rwr (w.setCell ⟨g, 1, none⟩ (.string v)) g q v made came ended e := ⟨by rw [heap_setCell_same _ _ _ _ _ _ h.row]; rfl⟩
theorem Rwr.set2 {w : World} {g q : Nat} {A : ByteArray} {made came : Nat} {ended : Bool} {e : Int} (h : Rwr w g q A made came ended e) (v : Nat) : Rwr (w.setCell ⟨g, 2, none⟩ (.int .i64 v)) g q A v came ended e := ⟨by rw [heap_setCell_same _ _ _ _ _ _ h.row]; rfl⟩
theorem Rwr.set3 {w : World} {g q : Nat} {A : ByteArray} {made came : Nat} {ended : Bool} {e : Int} (h : Rwr w g q A made came ended e) (v : Nat) : Rwr (w.setCell ⟨g, 3, none⟩ (.int .i64 v)) g q A made v ended e := ⟨by rw [heap_setCell_same _ _ _ _ _ _ h.row]; rfl⟩
theorem Rwr.set4 {w : World} {g q : Nat} {A : ByteArray} {made came : Nat} {ended : Bool} {e : Int} (h : Rwr w g q A made came ended e) (v : Bool) : Rwr (w.setCell ⟨g, 4, none⟩ (.bool v)) g q A made came v e := ⟨by rw [heap_setCell_same _ _ _ _ _ _ h.row]; rfl⟩
theorem Rwr.set5 {w : World} {g q : Nat} {A : ByteArray} {made came : Nat} {ended : Bool} {e : Int} (h : Rwr w g q A made came ended e) (v : Int) : Rwr (w.setCell ⟨g, 5, none⟩ (.int .i64 v)) g q A made came ended v := ⟨by rw [heap_setCell_same _ _ _ _ _ _ h.row]; rfl⟩

/-- .. behind a page: what was made, if it went well. -/
def RwrM (w : World) (g q : Nat) (A : ByteArray) (m n came : Nat) (ended : Bool) (e r : Int) : Prop := ∃ m', Rwr w g q A m' came ended e ∧ m' = if r = 0 then m + n else m
set_option maxHeartbeats 8000000 in
theorem rpage_any (g q p bb cb : Nat) (F B : Int) (s : FS) (A : ByteArray) (m came : Nat) (ended : Bool) (e0 : Int) (n : Nat) (w : World) (hf : Fl 57 w p bb cb s) (hok : s.Ok) (h : RPa w q p F B) (hi : In s.n.length F B) (hw : Rwr w g q A m came ended e0)
    (hg : g ∉ [p, bb, cb]) (hq : q ∉ [p, bb, cb]) (hqg : q ≠ g) (hmn : m + n ≤ A.size) (hA : A.size ≤ 131072) :
    Calls Try.prog 38 #[.pointer (some ⟨g, 0, none⟩), .int .i64 n] w fun e w' => e = .returned (.int .i64 (s.wpage F B m ((A.data.toList.drop m).take n)).2) ∧ Fl 57 w' p bb cb (s.wpage F B m ((A.data.toList.drop m).take n)).1 ∧
      RwrM w' g q A m n came ended e0 (s.wpage F B m ((A.data.toList.drop m).take n)).2 ∧ Upd [g, p, bb, cb] w w' := by
  obtain ⟨l, hl⟩ : ∃ l, l = (A.data.toList.drop m).take n := ⟨_, rfl⟩
  rw [← hl]
  have hc := Box.mk (fun w hf hp => rpclean_any q p bb cb F B s m 512 w hf hok hp hi (by omega) (by omega))
  have hmI : (m : Int) ≤ 131072 := by omega
  have hwm : IntKind.i64.wrap ((m : Int) + (n : Int)) = ((m + n : Nat) : Int) := by rw [IntKind.wrap_i64]; omega
  have HE : Box (s.wpage F B m l = if m % 512 = 0 then (if (s.wclean F B (m / 512)).2 ≠ 0 then s.wclean F B (m / 512) else (s.wclean F B (m / 512)).1.pwrite F B m l) else s.pwrite F B m l) := ⟨rfl⟩
  have HC : Box (m % 512 = 0 → s.wclean F B (m / 512) = if (pcleanV s F B m 512).2 ≠ 0 then (s, (pcleanV s F B m 512).2) else if (pcleanV s F B m 512).1 = true then (s, 0) else s.perase F B ((m : Int) / 512)) := ⟨fun h0 => by
    unfold FS.wclean
    rw [show 512 * (m / 512) = m by omega]
    congr 1⟩
  have OKC := Box.mk (FS.wclean_ok hok F B (m / 512))
  have HF := Box.mk hf; have HP := Box.mk h; have HOK := Box.mk hok; have HI := Box.mk hi; have HW := Box.mk hw; have HG := Box.mk hg; have HQ := Box.mk hq
  obtain ⟨c0, c1, c2, c3, c4, c5⟩ := hw.cells
  have HL := Box.mk hl; have HMN := Box.mk hmn; have HAA := Box.mk hA; have HQG := Box.mk hqg
  have hwq : IntKind.i64.wrap ((m : Int) / 512) = (m : Int) / 512 := by rw [IntKind.wrap_i64]; omega
  obtain ⟨V, hV⟩ : ∃ V, V = s.wpage F B m l := ⟨_, rfl⟩
  rw [← hV] at HE ⊢
  clear hV hf hok h hi hw hg hq hl hmn hA c1 c3 c4 c5 hqg
  go_enter Try.func38, Try.ntmps38
  go_upto_if 13 with (fail)
  go_cut [] (fun wx => ∃ s1 : FS, s1.Ok ∧ s1.n.length = s.n.length ∧ V = s1.pwrite F B m l ∧ Fl 57 wx p bb cb s1 ∧ Upd [p, bb, cb] w wx)
  case first =>
    by_cases hb : m % 512 = 0
    · have hb1 : ((m : Int) % 512 == 0) = true := by rw [beq_iff_eq]; omega
      have HCC := Box.mk (HC.out hb)
      have hE := HE.out
      rw [if_pos hb] at hE
      generalize s.wclean F B (m / 512) = c at hE HCC OKC
      have HE2 := Box.mk hE
      have PE := Box.mk (fun w hf hp => rperase_any q p bb cb F B s ((m : Int) / 512) w hf HOK.out hp HI.out)
      generalize s.perase F B ((m : Int) / 512) = r at PE HCC
      generalize pcleanV s F B m 512 = v at hc HCC
      obtain ⟨v1, v2⟩ := v
      obtain ⟨r1, r2⟩ := r
      dsimp only at hc HCC PE
      have ROW := Box.mk (show w.drew.heap[g]? = some (.cells (rwc q A m came ended e0) 51 (0, 0)) from HW.out.row)
      clear hb hE HE HC
      go_upto_region 2 with (fail)
      refine wp_region_mix 13 [.flo, .flo, .flo, .flo, .flo, .flo, .flo, .flo, .cha, .flo, .flo, .flo, .flo] (by kernel_rfl) (by kernel_rfl) rfl ?_
      simp only [List.take, List.zip, List.zipWith]
      try go_frame
      refine gm_move (.tmp 0) (.inl rfl) (.pointer (some ⟨g, 0, none⟩)) rfl ?_
      try go_frame
      refine gm_flo (.pointer (some ⟨g, 0, none⟩)) (fun w1 hw1 => ?_) ?_
      case refine_1 =>
        go_simp
      try go_frame
      refine gm_flo (.pointer (some ⟨g, 0, none⟩)) (fun w1 hw1 => ?_) ?_
      case refine_1 =>
        go_simp
      try go_frame
      refine gm_flo (.pointer (some ⟨q, 0, none⟩)) (fun w1 hw1 => ?_) ?_
      case refine_1 =>
        have e1 : w1.cell? ⟨g, 0, none⟩ = some (.pointer (some ⟨q, 0, none⟩)) := (cell_of_row _ _ _ _ _ _ (hw1.at (by simp) ROW.out)).trans rfl
        go_simp
      try go_frame
      refine gm_move (.tmp 0) (.inl rfl) (.pointer (some ⟨g, 0, none⟩)) rfl ?_
      try go_frame
      refine gm_flo (.pointer (some ⟨g, 0, none⟩)) (fun w1 hw1 => ?_) ?_
      case refine_1 =>
        go_simp
      try go_frame
      refine gm_flo (.pointer (some ⟨g, 2, none⟩)) (fun w1 hw1 => ?_) ?_
      case refine_1 =>
        go_simp
      try go_frame
      refine gm_flo (.int .i64 (m : Nat)) (fun w1 hw1 => ?_) ?_
      case refine_1 =>
        have e1 : w1.cell? ⟨g, 2, none⟩ = some (.int .i64 (m : Nat)) := (cell_of_row _ _ _ _ _ _ (hw1.at (by simp) ROW.out)).trans rfl
        go_simp
      try go_frame
      refine gm_call [.pointer (some ⟨q, 0, none⟩), .int .i64 (m : Nat), .int .i64 512] (by kernel_rfl) rfl rfl Stb.tt (fun w1 hw1 hF1 => (hc.out w1 (HF.out.upd ((Upd.refl [] w).drew.trans hw1.upd) (by simp) (by simp) (by simp)) (HP.out.upd ((Upd.refl [] w).drew.trans hw1.upd) (by simp))).mono ?_)
      rintro e w2 ⟨rfl, hu⟩
      refine ⟨_, rfl, hu.gr, ?_⟩
      clear hw1 hF1 hu w1 w2
      try go_frame
      refine gm_move (.tmp 23) (.inl rfl) (.tuple #[.bool v1, .int .i64 v2]) rfl ?_
      try go_frame
      refine gm_extract (vs := #[.bool v1, .int .i64 v2]) (.tmp 14) 0 rfl rfl (.bool v1) rfl ?_
      try go_frame
      refine gm_extract (vs := #[.bool v1, .int .i64 v2]) (.tmp 14) 1 rfl rfl (.int .i64 v2) rfl ?_
      try go_frame
      refine gm_move (.tmp 24) (.inr rfl) (.bool v1) rfl ?_
      try go_frame
      refine gm_nil ?_
      intro w9 hw9 hF9
      simp only [List.drop]
      try go_frame
      have U9 := Box.mk ((Upd.refl [] w).drew.trans hw9.upd); clear hw9 hF9
      have F9 := Box.mk (HF.out.upd U9.out (by simp) (by simp) (by simp)); have P9 := Box.mk (HP.out.upd U9.out (by simp))
      obtain ⟨d0, d1, d2, d3, d4, d5⟩ := (HW.out.upd U9.out (by simp)).cells
      clear c0 c2 d1 d3 d4 d5
      by_cases hv2 : v2 = 0
      · have hv2b : (v2 == 0) = true := by simpa using hv2
        have hv2c : (v2 != 0) = false := by simpa using hv2
        have HV2 := Box.mk hv2
        have hcc := HCC.out
        rw [if_neg (by simpa using hv2)] at hcc
        clear hv2 HCC
        cases v1 with
        | true =>
          rw [if_pos rfl] at hcc
          have HX : Box (V = s.pwrite F B m l) := ⟨by have := HE2.out; rw [hcc, if_neg (by simp)] at this; exact this⟩
          clear hcc HE2 PE OKC
          go_wp2_with fail
          go_meet
          exact ⟨s, HOK.out, rfl, HX.out, F9.out, U9.out.mono (by simp)⟩
        | false =>
          rw [if_neg (by simp)] at hcc
          have he3 := HE2.out
          rw [hcc] at he3 OKC
          dsimp only at he3 OKC
          have HE3 := Box.mk he3
          clear he3
          clear hcc HE2
          go_upto_region 4 with (fail)
          go_still_tail 9, (by kernel_rfl)
          change wpList _ _ _ _ _ w9.drew
          go_wp2_with fail
          refine (PE.out _ (F9.out.upd (Upd.refl [] w9).drew (by simp) (by simp) (by simp)) (P9.out.upd (Upd.refl [] w9).drew (by simp))).mono ?_
          rintro e w2 ⟨rfl, hf2, hu2⟩
          have HF2 := Box.mk hf2; have HU2 := Box.mk (((U9.out.mono (T := [p, bb, cb]) (by simp)).trans (Upd.refl _ w9).drew).trans hu2); clear hf2 hu2
          by_cases hr : r2 = 0
          · have hrb : (r2 != 0) = false := by simpa using hr
            have HX : Box (V = r1.pwrite F B m l) := ⟨by have := HE3.out; rw [if_neg (by simpa using hr)] at this; exact this⟩
            clear hr HE3
            go_wp2_with fail
            go_meet
            exact ⟨r1, OKC.out.1, OKC.out.2, HX.out, HF2.out, HU2.out⟩
          · have hrb : (r2 != 0) = true := by rw [bne_iff_ne]; exact hr
            have HX : Box (V = (r1, r2)) := ⟨by have := HE3.out; rw [if_pos hr] at this; exact this⟩
            have HRR := Box.mk hr
            clear hr HE3
            go_wp2_with fail
            go_ret
            rw [HX.out]
            exact ⟨rfl, HF2.out, ⟨m, HW.out.upd HU2.out HG.out, by dsimp only; rw [if_neg HRR.out]⟩, HU2.out.mono (by simp)⟩
      · have hv2b : (v2 == 0) = false := by rw [beq_eq_false_iff_ne]; exact hv2
        have hv2c : (v2 != 0) = true := by rw [bne_iff_ne]; exact hv2
        have HX : Box (V = (s, v2)) := ⟨by have h1 := HCC.out; have h2 := HE2.out; rw [if_pos hv2] at h1; rw [h1, if_pos hv2] at h2; exact h2⟩
        have HRR := Box.mk hv2
        clear hv2 HCC HE2 PE OKC
        go_wp2_with fail
        go_ret
        rw [HX.out]
        exact ⟨rfl, F9.out, ⟨m, HW.out.upd U9.out (by simp), by dsimp only; rw [if_neg HRR.out]⟩, U9.out.mono (by simp)⟩
    · have hb1 : ((m : Int) % 512 == 0) = false := by rw [beq_eq_false_iff_ne]; omega
      have hE := HE.out
      rw [if_neg hb] at hE
      have HX := Box.mk hE
      clear hb hE HE HC
      go_wp2_with fail
      go_meet
      exact ⟨s, HOK.out, rfl, HX.out, HF.out, Upd.refl _ _⟩
  case rest =>
    obtain ⟨s1, ok1, n1, hv, f1, u1⟩ := hcut
    have F1 := Box.mk f1; have OK1 := Box.mk ok1; have U1 := Box.mk u1; have N1 := Box.mk n1
    have P1 := Box.mk (HP.out.upd u1 HQ.out); have W1 := Box.mk (HW.out.upd u1 HG.out)
    obtain ⟨T, hT⟩ : ∃ T : ByteArray, T = A.extract m (m + n) := ⟨_, rfl⟩
    have hTl : T.data.toList = l := by rw [hT, HL.out, ext_drop A m (m + n) HMN.out (by omega), Nat.add_sub_cancel_left]
    have PW := Box.mk (fun w h hp => rpwrite_any q p bb cb F B s1 m T w h OK1.out hp (by rw [N1.out]; exact HI.out) (by have := HQ.out; simp at this; exact this.2.1) (by have := HQ.out; simp at this; exact this.1) (by omega) (by rw [hT, ByteArray.size_extract]; have := HAA.out; omega))
    rw [hTl, ← hv, hT] at PW
    have hle1 : (m : Int) ≤ ((m + n : Nat) : Int) := by omega
    have hle2 : ((m + n : Nat) : Int) ≤ (A.size : Int) := by have := HMN.out; omega
    obtain ⟨k, hk⟩ : ∃ k, k = m + n := ⟨_, rfl⟩
    rw [← hk] at hle1 hle2 hwm PW
    have HK := Box.mk hk
    obtain ⟨d0, d1, d2, d3, d4, d5⟩ := W1.out.cells
    clear f1 ok1 u1 n1 hv hT hTl c0 c2 hc HE HC OKC d3 d4 d5 hk
    go_upto_region 7 with (fail)
    go_still_tail 23, (by kernel_rfl)
    change wpList _ _ _ _ _ wc.drew
    go_wp2_with fail
    refine (PW.out _ (F1.out.upd (Upd.refl [] wc).drew (by simp) (by simp) (by simp)) (P1.out.upd (Upd.refl [] wc).drew (by simp))).mono ?_
    rintro e w2 ⟨rfl, hf2, hu2⟩
    have U2 := Box.mk (((Upd.refl [p, bb, cb] wc).drew).trans (hu2.mono (T := [p, bb, cb]) (by simp)))
    have HF2 := Box.mk hf2; have HW2 := Box.mk (W1.out.upd U2.out HG.out); have HU2 := Box.mk ((U1.out.trans U2.out).mono (T := [g, p, bb, cb]) (by simp))
    obtain ⟨d0, d1, d2, d3, d4, d5⟩ := HW2.out.cells
    have f2 := HW2.out.free 2
    obtain ⟨r1, r2⟩ := V
    dsimp only at HF2 ⊢
    clear hf2 hu2 PW d0 d1 d3 d4 d5
    by_cases hr : r2 = 0
    · have hrb : (r2 == 0) = true := by simpa using hr
      have HRR := Box.mk hr
      clear hr
      go_wp2_with fail
      go_ret
      have hpp : p ∉ [g] ∧ bb ∉ [g] ∧ cb ∉ [g] := by have := HG.out; simp at this ⊢; exact ⟨fun h => this.1 h.symm, fun h => this.2.1 h.symm, fun h => this.2.2 h.symm⟩
      exact ⟨rfl, HF2.out.upd ((Upd.refl [g] w2).setCell (by simp) _) hpp.1 hpp.2.1 hpp.2.2, ⟨k, HW2.out.set2 k, by rw [if_pos HRR.out]; exact HK.out⟩, HU2.out.setCell (by simp) _⟩
    · have hrb : (r2 == 0) = false := by rw [beq_eq_false_iff_ne]; exact hr
      have HRR := Box.mk hr
      clear hr
      go_wp2_with fail
      go_ret
      exact ⟨rfl, HF2.out, ⟨m, HW2.out, by rw [if_neg HRR.out]⟩, HU2.out⟩
end Go.Proofs.Ytopiopomioglfaa
namespace Go.Proofs.Ytopiopomioglfaa.Big
set_option maxRecDepth 100000
set_option linter.unusedVariables false
open Go Go.RowKit

def pw (i : Nat) : Nat := 2 ^ (32 * i)
theorem pw_pos (i : Nat) : 0 < pw i := Nat.two_pow_pos _
theorem pw_succ (i : Nat) : pw (i + 1) = pw i * 4294967296 := by unfold pw; rw [Nat.mul_add, Nat.pow_add]
theorem pw_zero : pw 0 = 1 := rfl
/-- Digit i. -/
def bd (v i : Nat) : Nat := v / pw i % 4294967296
theorem bd_lt (v i : Nat) : bd v i < 4294967296 := Nat.mod_lt _ (by omega)
theorem mod_pw (v i : Nat) : v % pw (i + 1) = v % pw i + pw i * bd v i := by rw [pw_succ, Nat.mod_mul]; rfl
theorem div_pw (v i : Nat) : v / pw i = bd v i + 4294967296 * (v / pw (i + 1)) := by
  rw [pw_succ, ← Nat.div_div_eq_div_mul]
  unfold bd
  have := Nat.div_add_mod (v / pw i) 4294967296
  omega
/-- What is over behind i digits of a s + b t + m. -/
def cy (a s b t m i : Nat) : Nat := (a % pw i * s + b % pw i * t + m) / pw i
theorem cy_zero (a s b t m : Nat) : cy a s b t m 0 = m := by unfold cy; rw [pw_zero]; simp [Nat.mod_one]
theorem cy_step (a s b t m i : Nat) : cy a s b t m (i + 1) = (bd a i * s + bd b i * t + cy a s b t m i) / 4294967296 := by
  unfold cy
  rw [mod_pw, mod_pw, show (a % pw i + pw i * bd a i) * s + (b % pw i + pw i * bd b i) * t + m = a % pw i * s + b % pw i * t + m + pw i * (bd a i * s + bd b i * t) by
    rw [Nat.add_mul, Nat.add_mul, Nat.mul_add, Nat.mul_assoc, Nat.mul_assoc]; omega, pw_succ, ← Nat.div_div_eq_div_mul, Nat.add_mul_div_left _ _ (pw_pos i)]
  congr 1; omega
theorem cy_digit (a s b t m i : Nat) : bd (a * s + b * t + m) i = (bd a i * s + bd b i * t + cy a s b t m i) % 4294967296 := by
  have ha := Nat.div_add_mod a (pw i); have hb := Nat.div_add_mod b (pw i)
  have e : (a * s + b * t + m) / pw i = a / pw i * s + b / pw i * t + cy a s b t m i := by
    unfold cy
    have h : a * s + b * t + m = a % pw i * s + b % pw i * t + m + pw i * (a / pw i * s + b / pw i * t) := by
      conv => lhs; rw [← ha, ← hb]
      rw [Nat.add_mul, Nat.add_mul, Nat.mul_add, Nat.mul_assoc, Nat.mul_assoc]; omega
    rw [h, Nat.add_mul_div_left _ _ (pw_pos i)]; omega
  conv => lhs; unfold bd
  rw [e, div_pw a, div_pw b]
  rw [show (bd a i + 4294967296 * (a / pw (i + 1))) * s + (bd b i + 4294967296 * (b / pw (i + 1))) * t + cy a s b t m i = bd a i * s + bd b i * t + cy a s b t m i + 4294967296 * (a / pw (i + 1) * s + b / pw (i + 1) * t) by
    rw [Nat.add_mul, Nat.add_mul, Nat.mul_add, Nat.mul_assoc, Nat.mul_assoc]; omega, Nat.add_mul_mod_self_left]
theorem bd_mod (v i : Nat) (hi : i < 5) : bd (v % pw 5) i = bd v i := by
  have h : pw 5 = pw i * (4294967296 * pw (4 - i)) := by
    have : pw 5 = pw (i + 1 + (4 - i)) := by congr 1; omega
    rw [this]; unfold pw; rw [Nat.mul_add, Nat.pow_add, Nat.mul_add, Nat.pow_add, Nat.mul_assoc]
  unfold bd
  rw [h, Nat.mod_mul_right_div_self, Nat.mod_mul_right_mod]
/-- What is under behind i digits of x - y. -/
def un (x y i : Nat) : Nat := if x % pw i < y % pw i then 1 else 0
theorem un_le (x y i : Nat) : un x y i ≤ 1 := by unfold un; split <;> omega
theorem un_zero (x y : Nat) : un x y 0 = 0 := by unfold un; rw [pw_zero]; simp [Nat.mod_one]
theorem un_step (x y i : Nat) : un x y (i + 1) = 1 - (bd x i + 4294967296 - bd y i - un x y i) / 4294967296 := by
  have hx := bd_lt x i; have hy := bd_lt y i
  have h1 := Nat.mod_lt x (pw_pos i); have h2 := Nat.mod_lt y (pw_pos i)
  unfold un
  rw [mod_pw, mod_pw]
  rcases Nat.lt_trichotomy (bd x i) (bd y i) with h | h | h
  · have : pw i * (bd x i + 1) ≤ pw i * bd y i := Nat.mul_le_mul (Nat.le_refl _) h
    rw [Nat.mul_add, Nat.mul_one] at this
    rw [if_pos (by omega)]
    split <;> omega
  · rw [h]
    by_cases h3 : x % pw i < y % pw i
    · rw [if_pos (by omega), if_pos h3]; omega
    · rw [if_neg (by omega), if_neg h3]; omega
  · have : pw i * (bd y i + 1) ≤ pw i * bd x i := Nat.mul_le_mul (Nat.le_refl _) h
    rw [Nat.mul_add, Nat.mul_one] at this
    rw [if_neg (by omega)]
    split <;> omega
theorem un_digit (x y i : Nat) (h : y ≤ x) : bd (x - y) i = (bd x i + 4294967296 - bd y i - un x y i) % 4294967296 := by
  have hx := bd_lt x i; have hy := bd_lt y i
  have h1 := Nat.mod_lt x (pw_pos i); have h2 := Nat.mod_lt y (pw_pos i)
  have ex := Nat.div_add_mod x (pw i); have ey := Nat.div_add_mod y (pw i)
  have hq : y / pw i ≤ x / pw i := Nat.div_le_div_right h
  have e : (x - y) / pw i = x / pw i - y / pw i - un x y i := by
    unfold un
    split
    · rename_i hl
      have hlt : y / pw i < x / pw i := by
        rcases Nat.lt_or_ge (y / pw i) (x / pw i) with h3 | h3
        · exact h3
        · have : x / pw i = y / pw i := by omega
          rw [this] at ex; omega
      obtain ⟨k, hk⟩ : ∃ k, x / pw i = y / pw i + 1 + k := ⟨x / pw i - y / pw i - 1, by omega⟩
      have e2 : x - y = (pw i - (y % pw i - x % pw i)) + pw i * k := by
        rw [hk, Nat.mul_add, Nat.mul_add, Nat.mul_one] at ex
        omega
      rw [e2, Nat.add_mul_div_left _ _ (pw_pos i), Nat.div_eq_of_lt (by omega)]; omega
    · rename_i hl
      obtain ⟨k, hk⟩ : ∃ k, x / pw i = y / pw i + k := ⟨x / pw i - y / pw i, by omega⟩
      have e2 : x - y = (x % pw i - y % pw i) + pw i * k := by
        rw [hk, Nat.mul_add] at ex
        omega
      rw [e2, Nat.add_mul_div_left _ _ (pw_pos i), Nat.div_eq_of_lt (by omega)]; omega
  have u1 := un_le x y i
  have hle : y / pw i + un x y i ≤ x / pw i := by
    unfold un
    split
    · rename_i hl
      rcases Nat.lt_or_ge (y / pw i) (x / pw i) with h3 | h3
      · omega
      · have : x / pw i = y / pw i := by omega
        rw [this] at ex; omega
    · omega
  have dx := div_pw x i; have dy := div_pw y i
  conv => lhs; unfold bd
  rw [e]
  generalize un x y i = u at u1 hle ⊢
  generalize x / pw i = X at dx hle ⊢
  generalize y / pw i = Y at dy hle ⊢
  omega
/-- From the top on: equal above, unlike here. -/
theorem below_here (x y i : Nat) (h : x / pw (i + 1) = y / pw (i + 1)) (hne : bd x i ≠ bd y i) : (x < y) ↔ bd x i < bd y i := by
  have dx := div_pw x i; have dy := div_pw y i
  rw [h] at dx
  constructor
  · intro hl
    have := Nat.div_le_div_right (c := pw i) (Nat.le_of_lt hl)
    omega
  · intro hl
    rcases Nat.lt_or_ge x y with h3 | h3
    · exact h3
    · have := Nat.div_le_div_right (c := pw i) h3
      omega
theorem below_next (x y i : Nat) (h : x / pw (i + 1) = y / pw (i + 1)) (he : bd x i = bd y i) : x / pw i = y / pw i := by
  rw [div_pw x i, div_pw y i, h, he]
end Go.Proofs.Ytopiopomioglfaa.Big
namespace Go.Proofs.Ytopiopomioglfaa.Big
set_option maxRecDepth 100000
set_option linter.unusedVariables false
open Go Go.RowKit

/-- The cells of a number. -/
def gcell (f : Nat → Nat) : Array Value := #[.int .u64 (f 0 : Nat), .int .u64 (f 1 : Nat), .int .u64 (f 2 : Nat), .int .u64 (f 3 : Nat), .int .u64 (f 4 : Nat)]
theorem gcell_get (f : Nat → Nat) (i : Nat) (hi : i < 5) : (gcell f)[i]? = some (.int .u64 (f i : Nat)) := by
  match i, hi with
  | 0, _ => rfl
  | 1, _ => rfl
  | 2, _ => rfl
  | 3, _ => rfl
  | 4, _ => rfl
/-- The first digits of one number, the others of another. -/
def mx (G v k : Nat) : Nat → Nat := fun j => if j < k then bd G j else bd v j
theorem mx_zero (G v : Nat) : mx G v 0 = bd v := by funext j; simp [mx]
theorem mx_step (G v k : Nat) (hk : k < 5) : (gcell (mx G v k)).setIfInBounds k (.int .u64 (bd G k : Nat)) = gcell (mx G v (k + 1)) := by
  match k, hk with
  | 0, _ => simp [gcell, mx]
  | 1, _ => simp [gcell, mx]
  | 2, _ => simp [gcell, mx]
  | 3, _ => simp [gcell, mx]
  | 4, _ => simp [gcell, mx]
theorem mx_all (G v : Nat) : gcell (mx G v 5) = gcell (bd G) := by simp [gcell, mx]
theorem gcell_mod (G : Nat) : gcell (bd (G % pw 5)) = gcell (bd G) := by
  simp only [gcell, bd_mod G _ (show 0 < 5 by omega), bd_mod G _ (show 1 < 5 by omega), bd_mod G _ (show 2 < 5 by omega), bd_mod G _ (show 3 < 5 by omega), bd_mod G _ (show 4 < 5 by omega)]
/-- A number lies in its block. -/
def BigAt (w : World) (p v : Nat) : Prop := w.heap[p]? = some (.cells (gcell (bd v)) 137 (0, 0))
set_option maxRecDepth 100000 in
set_option maxHeartbeats 2000000 in
theorem grow_any (p v t m : Nat) (w : World) (h : BigAt w p v) (ht : t ≤ 65536) (hm : m < 4294967296) :
    Calls Try.prog 90 #[.pointer (some ⟨p, 0, none⟩), .int .u64 (t : Nat), .int .u64 (m : Nat)] w fun e w' => e = .returned (.tuple #[]) ∧ BigAt w' p ((v * t + m) % pw 5) ∧ Upd [p] w w' := by
  obtain ⟨G, hG⟩ : ∃ G, G = v * t + m := ⟨_, rfl⟩
  have HG := Box.mk hG
  have hh : w.heap[p]? = some (.cells (gcell (mx G v 0)) 137 (0, 0)) := by rw [mx_zero]; exact h
  have H := Box.mk hh
  clear h hh hG
  go_enter Try.func90, Try.ntmps90
  go_wp2_with fail
  go_loopw [2, 6] (fun x i wr => ∃ k : Nat, k ≤ 5 ∧ i = .int .i64 k ∧ x = .int .u64 (cy v t 0 0 m k : Nat) ∧ wr.heap[p]? = some (.cells (gcell (mx G v k)) 137 (0, 0)) ∧ Upd [p] w wr) (fun _ i _ => 5 - (intOf i).toNat)
  case atStart => exact ⟨0, by omega, rfl, by rw [cy_zero], H.out, Upd.refl _ _⟩
  case round =>
    clear H
    obtain ⟨k, hk, rfl, rfl, hrow, hu⟩ := hrel
    have HR := Box.mk hrow; have HU := Box.mk hu
    by_cases hlt : k < 5
    · have hkI : (k : Int) < 5 := by omega
      have hc : wr.cell? ⟨p, k, none⟩ = some (.int .u64 (bd v k : Nat)) := by
        rw [cell_of_row _ _ _ _ _ _ hrow, gcell_get _ _ hlt]; simp [mx]
      have hf : wr.frozen? ⟨p, k, none⟩ = false := frozen_of_row _ _ _ _ _ hrow
      have hd := bd_lt v k
      have st := cy_step v t 0 0 m k; have dg := cy_digit v t 0 0 m k
      rw [Nat.mul_zero, Nat.add_zero] at st dg
      rw [Nat.mul_zero, Nat.add_zero, ← HG.out] at dg
      obtain ⟨c, hcc⟩ : ∃ c, c = cy v t 0 0 m k := ⟨_, rfl⟩
      have hcl : c < 281474976710656 := by
        rw [hcc]; unfold cy
        rw [Nat.mul_zero, Nat.add_zero]
        have h1 := Nat.mod_lt v (pw_pos k)
        have h2 : v % pw k * t ≤ pw k * 65536 := Nat.mul_le_mul (Nat.le_of_lt h1) ht
        have h3 := pw_pos k
        have h4 : m ≤ pw k * 4294967296 := Nat.le_trans (Nat.le_of_lt hm) (Nat.le_mul_of_pos_left _ h3)
        have h5 : (v % pw k * t + m) / pw k ≤ 4295032832 := by
          rw [Nat.div_le_iff_le_mul_add_pred h3]; omega
        omega
      rw [← hcc] at st dg ⊢
      obtain ⟨d, hdd⟩ : ∃ d, d = bd v k := ⟨_, rfl⟩
      rw [← hdd] at hc hd st dg
      have hdt : d * t ≤ 4294967296 * 65536 := Nat.mul_le_mul (Nat.le_of_lt hd) ht
      obtain ⟨e, he⟩ : ∃ e, e = d * t := ⟨_, rfl⟩
      rw [← he] at hdt st dg
      have hw1 : IntKind.u64.wrap ((d : Int) * (t : Int)) = (e : Int) := by rw [IntKind.wrap_u64, ← Int.natCast_mul, ← he]; omega
      obtain ⟨x, hx⟩ : ∃ x, x = c + e := ⟨_, rfl⟩
      have hw2 : IntKind.u64.wrap ((c : Int) + (e : Int)) = (x : Int) := by rw [IntKind.wrap_u64]; omega
      obtain ⟨r, hr⟩ : ∃ r, r = x % 4294967296 := ⟨_, rfl⟩
      obtain ⟨q, hq⟩ : ∃ q, q = x / 4294967296 := ⟨_, rfl⟩
      have hrI : (x : Int) % 4294967296 = (r : Int) := by omega
      have hqI : (x : Int) / 4294967296 = (q : Int) := by omega
      have hwq : IntKind.u64.wrap (q : Int) = (q : Int) := by rw [IntKind.wrap_u64]; omega
      have ST := Box.mk (show cy v t 0 0 m (k + 1) = q by rw [st, hq, hx]; congr 1; omega)
      have DG := Box.mk (show bd G k = r by rw [dg, hr, hx, Nat.add_comm])
      clear st dg hcc hdd he hx hr hq hrow hu hdt hcl hd hlt
      go_wp2
      refine ⟨⟨k + 1, by omega, by go_num, ?_, ?_, ?_⟩, by simp [intOf]; omega⟩
      · rw [ST.out]
      · rw [heap_setCell_same _ _ _ _ _ _ HR.out, ← DG.out, mx_step _ _ _ (by omega)]
      · exact HU.out.setCell (by simp) _
    · obtain rfl : k = 5 := by omega
      rw [mx_all] at hrow
      clear hu hlt
      go_wp2
      go_end0
      refine ⟨rfl, ?_, HU.out⟩
      unfold BigAt
      rw [← HG.out, gcell_mod]; exact hrow
set_option maxRecDepth 100000 in
set_option maxHeartbeats 2000000 in
theorem plus_any (p q x y t : Nat) (w : World) (h : BigAt w p x) (h2 : BigAt w q y) (hne : q ≠ p) (ht : t ≤ 65536) :
    Calls Try.prog 91 #[.pointer (some ⟨p, 0, none⟩), .pointer (some ⟨q, 0, none⟩), .int .u64 (t : Nat)] w fun e w' => e = .returned (.tuple #[]) ∧ BigAt w' p ((x + y * t) % pw 5) ∧ Upd [p] w w' := by
  obtain ⟨G, hG⟩ : ∃ G, G = x + y * t := ⟨_, rfl⟩
  have HG := Box.mk hG
  have hh : w.heap[p]? = some (.cells (gcell (mx G x 0)) 137 (0, 0)) := by rw [mx_zero]; exact h
  have H := Box.mk hh
  have HY := Box.mk (show w.heap[q]? = some (.cells (gcell (bd y)) 137 (0, 0)) from h2)
  clear h h2 hh hG
  go_enter Try.func91, Try.ntmps91
  go_wp2_with fail
  go_loopw [6, 7] (fun u i wr => ∃ k : Nat, k ≤ 5 ∧ i = .int .i64 k ∧ u = .int .u64 (cy x 1 y t 0 k : Nat) ∧ wr.heap[p]? = some (.cells (gcell (mx G x k)) 137 (0, 0)) ∧ wr.heap[q]? = some (.cells (gcell (bd y)) 137 (0, 0)) ∧ Upd [p] w wr) (fun _ i _ => 5 - (intOf i).toNat)
  case atStart => exact ⟨0, by omega, rfl, by rw [cy_zero]; rfl, H.out, HY.out, Upd.refl _ _⟩
  case round =>
    clear H HY
    obtain ⟨k, hk, rfl, rfl, hrow, hrow2, hu⟩ := hrel
    have HR := Box.mk hrow; have HR2 := Box.mk hrow2; have HU := Box.mk hu
    by_cases hlt : k < 5
    · have hkI : (k : Int) < 5 := by omega
      have hc : wr.cell? ⟨p, k, none⟩ = some (.int .u64 (bd x k : Nat)) := by
        rw [cell_of_row _ _ _ _ _ _ hrow, gcell_get _ _ hlt]; simp [mx]
      have hc2 : wr.cell? ⟨q, k, none⟩ = some (.int .u64 (bd y k : Nat)) := by
        rw [cell_of_row _ _ _ _ _ _ hrow2, gcell_get _ _ hlt]
      have hf : wr.frozen? ⟨p, k, none⟩ = false := frozen_of_row _ _ _ _ _ hrow
      have hd := bd_lt x k; have hd2 := bd_lt y k
      have st := cy_step x 1 y t 0 k; have dg := cy_digit x 1 y t 0 k
      rw [Nat.mul_one, Nat.add_zero, ← HG.out] at dg
      rw [Nat.mul_one] at st dg
      obtain ⟨c, hcc⟩ : ∃ c, c = cy x 1 y t 0 k := ⟨_, rfl⟩
      have hcl : c < 281474976710656 := by
        rw [hcc]; unfold cy
        have h1 := Nat.mod_lt x (pw_pos k); have h1' := Nat.mod_lt y (pw_pos k)
        have h2 : y % pw k * t ≤ pw k * 65536 := Nat.mul_le_mul (Nat.le_of_lt h1') ht
        have h3 := pw_pos k
        have h5 : (x % pw k * 1 + y % pw k * t + 0) / pw k ≤ 65537 := by
          rw [Nat.div_le_iff_le_mul_add_pred h3]; omega
        omega
      rw [← hcc] at st dg ⊢
      obtain ⟨a, haa⟩ : ∃ d, d = bd x k := ⟨_, rfl⟩
      obtain ⟨d, hdd⟩ : ∃ d, d = bd y k := ⟨_, rfl⟩
      rw [← haa] at hc hd st dg
      rw [← hdd] at hc2 hd2 st dg
      have hdt : d * t ≤ 4294967296 * 65536 := Nat.mul_le_mul (Nat.le_of_lt hd2) ht
      obtain ⟨e, he⟩ : ∃ e, e = d * t := ⟨_, rfl⟩
      rw [← he] at hdt st dg
      have hw1 : IntKind.u64.wrap ((d : Int) * (t : Int)) = (e : Int) := by rw [IntKind.wrap_u64, ← Int.natCast_mul, ← he]; omega
      obtain ⟨z, hz⟩ : ∃ z, z = a + e := ⟨_, rfl⟩
      have hw0 : IntKind.u64.wrap ((a : Int) + (e : Int)) = (z : Int) := by rw [IntKind.wrap_u64]; omega
      obtain ⟨s, hs⟩ : ∃ s, s = c + z := ⟨_, rfl⟩
      have hw2 : IntKind.u64.wrap ((c : Int) + (z : Int)) = (s : Int) := by rw [IntKind.wrap_u64]; omega
      obtain ⟨r, hr⟩ : ∃ r, r = s % 4294967296 := ⟨_, rfl⟩
      obtain ⟨g, hg⟩ : ∃ q, q = s / 4294967296 := ⟨_, rfl⟩
      have hrI : (s : Int) % 4294967296 = (r : Int) := by omega
      have hqI : (s : Int) / 4294967296 = (g : Int) := by omega
      have hwq : IntKind.u64.wrap (g : Int) = (g : Int) := by rw [IntKind.wrap_u64]; omega
      have ST := Box.mk (show cy x 1 y t 0 (k + 1) = g by rw [st, hg, hs, hz]; congr 1; omega)
      have DG := Box.mk (show bd G k = r by rw [dg, hr, hs, hz]; congr 1; omega)
      clear st dg hcc hdd haa he hz hs hr hg hrow hrow2 hu hdt hcl hd hd2 hlt
      go_wp2
      go_region
      go_wp2
      refine ⟨⟨k + 1, by omega, by go_num, ?_, ?_, ?_, ?_⟩, by simp [intOf]; omega⟩
      · rw [ST.out]
      · rw [heap_drew, heap_setCell_same _ _ _ _ _ _ HR.out, ← DG.out, mx_step _ _ _ (by omega)]
      · rw [heap_drew, heap_setCell_other _ _ _ _ (by simpa using hne)]; exact HR2.out
      · exact (HU.out.setCell (by simp) _).drew
    · obtain rfl : k = 5 := by omega
      rw [mx_all] at hrow
      clear hu hlt hrow2
      go_wp2
      go_end0
      refine ⟨rfl, ?_, HU.out⟩
      unfold BigAt
      rw [← HG.out, gcell_mod]; exact hrow
end Go.Proofs.Ytopiopomioglfaa.Big
namespace Go.Proofs.Ytopiopomioglfaa.Big
set_option maxRecDepth 100000
set_option linter.unusedVariables false
open Go Go.RowKit

set_option maxRecDepth 100000 in
set_option maxHeartbeats 2000000 in
theorem less_any (p q x y : Nat) (w : World) (h : BigAt w p x) (h2 : BigAt w q y) (hne : q ≠ p) (hle : y ≤ x) :
    Calls Try.prog 93 #[.pointer (some ⟨p, 0, none⟩), .pointer (some ⟨q, 0, none⟩)] w fun e w' => e = .returned (.tuple #[]) ∧ BigAt w' p (x - y) ∧ Upd [p] w w' := by
  obtain ⟨G, hG⟩ : ∃ G, G = x - y := ⟨_, rfl⟩
  have HG := Box.mk hG
  have hh : w.heap[p]? = some (.cells (gcell (mx G x 0)) 137 (0, 0)) := by rw [mx_zero]; exact h
  have H := Box.mk hh
  have HY := Box.mk (show w.heap[q]? = some (.cells (gcell (bd y)) 137 (0, 0)) from h2)
  have HL := Box.mk hle
  clear h h2 hh hG hle
  go_enter Try.func93, Try.ntmps93
  go_wp2_with fail
  go_loopw [4, 5] (fun u i wr => ∃ k : Nat, k ≤ 5 ∧ i = .int .i64 k ∧ u = .int .u64 (un x y k : Nat) ∧ wr.heap[p]? = some (.cells (gcell (mx G x k)) 137 (0, 0)) ∧ wr.heap[q]? = some (.cells (gcell (bd y)) 137 (0, 0)) ∧ Upd [p] w wr) (fun _ i _ => 5 - (intOf i).toNat)
  case atStart => exact ⟨0, by omega, rfl, by rw [un_zero]; rfl, H.out, HY.out, Upd.refl _ _⟩
  case round =>
    clear H HY
    obtain ⟨k, hk, rfl, rfl, hrow, hrow2, hu⟩ := hrel
    have HR := Box.mk hrow; have HR2 := Box.mk hrow2; have HU := Box.mk hu
    by_cases hlt : k < 5
    · have hkI : (k : Int) < 5 := by omega
      have hc : wr.cell? ⟨p, k, none⟩ = some (.int .u64 (bd x k : Nat)) := by
        rw [cell_of_row _ _ _ _ _ _ hrow, gcell_get _ _ hlt]; simp [mx]
      have hc2 : wr.cell? ⟨q, k, none⟩ = some (.int .u64 (bd y k : Nat)) := by
        rw [cell_of_row _ _ _ _ _ _ hrow2, gcell_get _ _ hlt]
      have hf : wr.frozen? ⟨p, k, none⟩ = false := frozen_of_row _ _ _ _ _ hrow
      have hd := bd_lt x k; have hd2 := bd_lt y k
      have st := un_step x y k; have dg := un_digit x y k HL.out
      rw [← HG.out] at dg
      have hcl := un_le x y k
      obtain ⟨c, hcc⟩ : ∃ c, c = un x y k := ⟨_, rfl⟩
      rw [← hcc] at st dg hcl ⊢
      obtain ⟨a, haa⟩ : ∃ d, d = bd x k := ⟨_, rfl⟩
      obtain ⟨d, hdd⟩ : ∃ d, d = bd y k := ⟨_, rfl⟩
      rw [← haa] at hc hd st dg
      rw [← hdd] at hc2 hd2 st dg
      obtain ⟨z, hz⟩ : ∃ z, z = a + 4294967296 := ⟨_, rfl⟩
      have hw0 : IntKind.u64.wrap ((a : Int) + 4294967296) = (z : Int) := by rw [IntKind.wrap_u64]; omega
      obtain ⟨b, hb⟩ : ∃ b, b = z - d := ⟨_, rfl⟩
      have hw1 : IntKind.u64.wrap ((z : Int) - (d : Int)) = (b : Int) := by rw [IntKind.wrap_u64]; omega
      obtain ⟨s, hs⟩ : ∃ s, s = b - c := ⟨_, rfl⟩
      have hw2 : IntKind.u64.wrap ((b : Int) - (c : Int)) = (s : Int) := by rw [IntKind.wrap_u64]; omega
      obtain ⟨r, hr⟩ : ∃ r, r = s % 4294967296 := ⟨_, rfl⟩
      obtain ⟨g, hg⟩ : ∃ q, q = s / 4294967296 := ⟨_, rfl⟩
      have hrI : (s : Int) % 4294967296 = (r : Int) := by omega
      have hqI : (s : Int) / 4294967296 = (g : Int) := by omega
      have hg1 : g ≤ 1 := by omega
      have hwq : IntKind.u64.wrap (g : Int) = (g : Int) := by rw [IntKind.wrap_u64]; omega
      obtain ⟨o, ho⟩ : ∃ o, o = 1 - g := ⟨_, rfl⟩
      have hwo : IntKind.u64.wrap (1 - (g : Int)) = (o : Int) := by rw [IntKind.wrap_u64]; omega
      have ST := Box.mk (show un x y (k + 1) = o by rw [st, ho, hg, hs, hb, hz])
      have DG := Box.mk (show bd G k = r by rw [dg, hr, hs, hb, hz])
      clear st dg hcc hdd haa hz hb hs hr hg ho hrow hrow2 hu hcl hd hd2 hlt hg1
      go_wp2
      go_region
      go_wp2
      refine ⟨⟨k + 1, by omega, by go_num, ?_, ?_, ?_, ?_⟩, by simp [intOf]; omega⟩
      · rw [ST.out]
      · rw [heap_drew, heap_setCell_same _ _ _ _ _ _ HR.out, ← DG.out, mx_step _ _ _ (by omega)]
      · rw [heap_drew, heap_setCell_other _ _ _ _ (by simpa using hne)]; exact HR2.out
      · exact (HU.out.setCell (by simp) _).drew
    · obtain rfl : k = 5 := by omega
      rw [mx_all] at hrow
      clear hu hlt hrow2
      go_wp2
      go_end0
      refine ⟨rfl, ?_, HU.out⟩
      unfold BigAt
      rw [← HG.out]; exact hrow

set_option maxRecDepth 100000 in
set_option maxHeartbeats 2000000 in
theorem below_any (p q x y : Nat) (w : World) (h : BigAt w p x) (h2 : BigAt w q y) (hx : x < pw 5) (hy : y < pw 5) :
    Calls Try.prog 92 #[.pointer (some ⟨p, 0, none⟩), .pointer (some ⟨q, 0, none⟩)] w fun e w' => e = .returned (.bool (decide (x < y))) ∧ Upd [] w w' := by
  have H := Box.mk (show w.heap[p]? = some (.cells (gcell (bd x)) 137 (0, 0)) from h)
  have HY := Box.mk (show w.heap[q]? = some (.cells (gcell (bd y)) 137 (0, 0)) from h2)
  have h5 : x / pw (4 + 1) = y / pw (4 + 1) := by rw [Nat.div_eq_of_lt hx, Nat.div_eq_of_lt hy]
  have H5 := Box.mk h5
  obtain ⟨t, ht⟩ : ∃ t, t = decide (x < y) := ⟨_, rfl⟩
  rw [← ht]
  have HT := Box.mk ht
  clear h h2 h5 hx hy ht
  go_enter Try.func92, Try.ntmps92
  go_wp2_with fail
  go_loopw [5] (fun i wr => ∃ k : Nat, k ≤ 5 ∧ i = .int .i64 ((k : Int) - 1) ∧ x / pw k = y / pw k ∧ wr.heap[p]? = some (.cells (gcell (bd x)) 137 (0, 0)) ∧ wr.heap[q]? = some (.cells (gcell (bd y)) 137 (0, 0)) ∧ Upd [] w wr) (fun i _ => (intOf i + 1).toNat)
  case atStart => exact ⟨5, by omega, rfl, H5.out, H.out, HY.out, Upd.refl _ _⟩
  case round =>
    clear H HY H5
    obtain ⟨k, hk, rfl, heq, hrow, hrow2, hu⟩ := hrel
    have HR := Box.mk hrow; have HR2 := Box.mk hrow2; have HU := Box.mk hu; have HE := Box.mk heq
    clear heq
    by_cases hlt : 0 < k
    · obtain ⟨j, rfl⟩ : ∃ j, k = j + 1 := ⟨k - 1, by omega⟩
      have ej : ((j + 1 : Nat) : Int) - 1 = (j : Int) := by omega
      rw [ej]
      have hkI : (0 : Int) ≤ (j : Int) := by omega
      have hkI5 : (j : Int) < 5 := by omega
      have hc : wr.cell? ⟨p, j, none⟩ = some (.int .u64 (bd x j : Nat)) := by
        rw [cell_of_row _ _ _ _ _ _ hrow, gcell_get _ _ (by omega)]
      have hc2 : wr.cell? ⟨q, j, none⟩ = some (.int .u64 (bd y j : Nat)) := by
        rw [cell_of_row _ _ _ _ _ _ hrow2, gcell_get _ _ (by omega)]
      have Hh := Box.mk (below_here x y j HE.out); have Hn := Box.mk (below_next x y j HE.out)
      obtain ⟨a, haa⟩ : ∃ d, d = bd x j := ⟨_, rfl⟩
      obtain ⟨d, hdd⟩ : ∃ d, d = bd y j := ⟨_, rfl⟩
      rw [← haa, ← hdd] at Hh Hn
      rw [← haa] at hc
      rw [← hdd] at hc2
      clear haa hdd hlt hrow hrow2 hu ej
      by_cases hne : a = d
      · subst hne
        have hneB : ((a : Int) != (a : Int)) = false := by simp
        have ha2 := Box.mk (Hn.out rfl)
        clear Hn Hh
        go_wp2
        go_region
        go_wp2
        exact ⟨⟨j, by omega, by go_num, ha2.out, by rw [heap_drew]; exact HR.out, by rw [heap_drew]; exact HR2.out, HU.out.drew⟩, by simp [intOf]⟩
      · have hneI : ((a : Int) = (d : Int)) = False := by simp; omega
        have hneB : ((a : Int) != (d : Int)) = true := by rw [bne_iff_ne]; omega
        have hd : decide (a < d) = t := by
          rw [HT.out]; congr 1; apply propext; rw [Hh.out hne]
        clear Hn Hh HT
        go_wp2
        go_quiet (fail)
        go_wp2
        go_quiet (fail)
        go_wp2
        go_ret
        exact ⟨by rw [← hd]; rfl, ⟨HU.out.os, HU.out.tape, HU.out.output, HU.out.size, HU.out.block⟩⟩
    · obtain rfl : k = 0 := by omega
      have he : t = false := by
        have := HE.out; rw [pw_zero, Nat.div_one, Nat.div_one] at this
        rw [HT.out]; simp; omega
      subst he
      clear hu hlt hrow hrow2 HT
      go_wp2
      go_ret
      exact ⟨rfl, HU.out⟩
end Go.Proofs.Ytopiopomioglfaa.Big
