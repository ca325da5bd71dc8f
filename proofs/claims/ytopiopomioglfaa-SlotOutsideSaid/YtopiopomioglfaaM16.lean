/- The slots' laws: a piece that does not fit; what lies outside of an image: plain laws. Arguments that are scripts, of other calls: which, a number, how a step is torn, bytes. The slots' laws: the argument that is an image and a script; what was written is read. Whatever is done through a part, nothing outside of it is another one: plain laws. -/
import Derived.Test.YtopiopomioglfaaM15
import Derived.Test.YtopiopomioglfaaM14
namespace Go.Proofs.Ytopiopomioglfaa
set_option maxRecDepth 100000
set_option linter.unusedVariables false
open Go Go.RowKit Sha

theorem CutR.full {F B : Nat} {s0 s : FS} {ws : WS} {all : List UInt8} (h : CutR F B s0 s ws all) (l : List UInt8) (hl : 512 * B < all.length + l.length) : ws.write F B s l = (s, { ws with e := 241 }, 241) := by
  obtain ⟨rfl, t, la, le⟩ := h
  unfold WS.write
  rw [if_neg (by simp), if_neg (by simp), if_pos (by dsimp only; omega)]
theorem CutR.wok {F B : Nat} {s0 s : FS} {ws : WS} {all : List UInt8} (h : CutR F B s0 s ws all) : ws.Ok (B : Nat) ∧ ({ ws with e := 241 } : WS).Ok (B : Nat) := by
  obtain ⟨rfl, t, la, le⟩ := h
  exact ⟨⟨by dsimp only; omega, by dsimp only; omega, by dsimp only; omega, fun _ => ⟨rfl, fun _ => rfl⟩⟩, ⟨by dsimp only; omega, by dsimp only; omega, by dsimp only; omega, fun h => by simp at h⟩⟩
/-- What is left of the flash outside of the first n bytes of a part. -/
structure Outs (F n : Nat) (s0 s : FS) : Prop where
  len : s.b.length = s0.b.length
  lo : ∀ k, k < 512 * F → s.b[k]? = s0.b[k]?
  hi : ∀ k, 512 * F + 512 * ((n + 511) / 512) ≤ k → s.b[k]? = s0.b[k]?
theorem Laid.outs {s0 s : FS} {F m n : Nat} {all : List UInt8} (h : Laid s0 s F all m) (hm : m ≤ n) : Outs F n s0 s := ⟨h.len, h.lo, fun k hk => h.hi k (by omega)⟩
theorem CutR.outs {F B : Nat} {s0 s : FS} {ws wx : WS} {all : List UInt8} (h : CutR F B s0 s ws all) (hF : F + B ≤ s0.n.length) (hx : wx = ws ∨ wx = { ws with e := 241 }) : Outs F all.length s0 (wx.fin F B s).1 := by
  rcases hx with rfl | rfl
  · exact (h.fin hF).2.la.outs (Nat.le_refl _)
  · unfold WS.fin
    rw [if_pos (by simp)]
    exact h.la.outs (by omega)
theorem bext {l1 l2 : List UInt8} {a b : Nat} (h : ∀ k, a ≤ k → k < b → l1[k]? = l2[k]?) : (⟨l1.toArray⟩ : ByteArray).extract a b = (⟨l2.toArray⟩ : ByteArray).extract a b := by
  apply ByteArray.ext
  rw [ByteArray.data_extract, ByteArray.data_extract]
  apply Array.toList_inj.1
  rw [Array.toList_extract, Array.toList_extract, List.extract_eq_take_drop, List.extract_eq_take_drop]
  apply List.ext_getElem?
  intro i
  rw [List.getElem?_take, List.getElem?_take, List.getElem?_drop, List.getElem?_drop]
  by_cases hi : i < b - a
  · rw [if_pos hi, if_pos hi]; exact h _ (by omega) (by omega)
  · rw [if_neg hi, if_neg hi]
end Go.Proofs.Ytopiopomioglfaa
namespace Go.Proofs.Ytopiopomioglfaa
set_option maxRecDepth 100000
open Go Go.RowKit Go.ChangeShapes Go.WideShapes Go.Deep
set_option linter.unusedVariables false

/-- A call of a script. -/
structure OpS where
  k : Int
  n : Int
  a : Int
  m : UInt8
  s : ByteArray
structure OpS.Ok (o : OpS) : Prop where
  k : -9223372036854775808 ≤ o.k ∧ o.k ≤ 9223372036854775807
  a : -9223372036854775808 ≤ o.a ∧ o.a ≤ 9223372036854775807
  n : -9223372036854775808 ≤ o.n ∧ o.n ≤ 9223372036854775807
  s : o.s.size ≤ maxLen
/-- It lies at p. -/
structure OpAtS (w : World) (p : Addr) (o : OpS) : Prop where
  k : w.cell? p = some (.int .i64 o.k)
  n : w.cell? (p.add 1) = some (.int .i64 o.n)
  a : w.cell? (p.add 2) = some (.int .i64 o.a)
  m : w.cell? (p.add 3) = some (.int .u8 (o.m.toNat : Int))
  s : w.cell? (p.add 4) = some (.string o.s)
  ok : o.Ok
/-- The slice sl holds the calls of l. -/
def ScriptS (w : World) (sl : Value) (l : List OpS) : Prop :=
  ∃ (ao : Option Addr) (cap : Nat), sl = .slice ao l.length cap ∧ l.length ≤ maxLen ∧ ∀ i o, l[i]? = some o → ∃ a, ao = some a ∧ OpAtS w (a.add (i * 5)) o

theorem ScriptS.of_reads {H : Type} {enc : TypeId × Value → H} {P : Program} {w : World} {base : Nat} {spare : Nat → Bool} {held : Bool} {t e ti ts tb : TypeId} {v : Value} {n0 n1 n2 n3 n4 : Field}
    (ht : P.underlying t = some (.slice e)) (he : P.underlying e = some (.struct #[n0, n1, n2, n3, n4])) (hone : oneCellFields P #[n0, n1, n2, n3, n4] = true) (hC : P.cellsOf e = 5)
    (h0 : n0.type = ti) (h1 : n1.type = ti) (h2 : n2.type = ti) (h3 : n3.type = tb) (h4 : n4.type = ts)
    (hti : P.underlying ti = some (.int .i64)) (hts : P.underlying ts = some .string) (htb : P.underlying tb = some (.int .u8))
    (h : Reads enc P w base spare held t v) : ∃ l, ScriptS w v l := by
  rcases Reads.slice ht he hone hC h with rfl | ⟨a, len, cap, rfl, hb, hl, hm, hi⟩
  · exact ⟨[], none, 0, rfl, Nat.zero_le _, fun i o h => by simp at h⟩
  · have hex : ∀ i, i < len → ∃ o, OpAtS w (a.add (i * 5)) o := by
      intro i hil
      obtain ⟨c0, g0, r0⟩ := hi i hil 0 _ rfl
      obtain ⟨c1, g1, r1⟩ := hi i hil 1 _ rfl
      obtain ⟨c2, g2, r2⟩ := hi i hil 2 _ rfl
      obtain ⟨c3, g3, r3⟩ := hi i hil 3 _ rfl
      obtain ⟨c4, g4, r4⟩ := hi i hil 4 _ rfl
      have r0 := h0 ▸ r0; have r1 := h1 ▸ r1; have r2 := h2 ▸ r2; have r3 := h3 ▸ r3; have r4 := h4 ▸ r4
      obtain ⟨k, rfl, wk⟩ := r0.int hti
      obtain ⟨n, rfl, wn⟩ := r1.int hti
      obtain ⟨x, rfl, wx⟩ := r2.int hti
      obtain ⟨m, rfl, wm⟩ := r3.int htb
      obtain ⟨s, rfl, ws⟩ := r4.string hts
      have bm := bounds_u8 wm
      have em : m = ((UInt8.ofNat m.toNat).toNat : Int) := by rw [UInt8.toNat_ofNat']; omega
      have ha : ∀ j, (a.add (i * 5)).add j = a.add (i * 5 + j) := fun j => Go.Deep.add_add a _ _
      refine ⟨⟨k, n, x, UInt8.ofNat m.toNat, s⟩, ⟨by simpa using g0, by rw [ha]; simpa using g1, by rw [ha]; simpa using g2, by rw [ha, ← em]; simpa using g3, by rw [ha]; simpa using g4, ⟨bounds_i64 wk, bounds_i64 wx, bounds_i64 wn, ws⟩⟩⟩
    obtain ⟨l, hll, hP⟩ := exists_list (fun i o => OpAtS w (a.add (i * 5)) o) _ hex
    exact ⟨l, some a, cap, by rw [hll], by omega, fun i o h => ⟨a, rfl, hP i o h⟩⟩
/-- The cells in the walk's own spelling. -/
theorem OpAtS.flat {w : World} {p : Addr} {o : OpS} (h : OpAtS w p o) : w.cell? p = some (.int .i64 o.k) ∧ w.cell? ⟨p.block, p.off + 1, none⟩ = some (.int .i64 o.n) ∧ w.cell? ⟨p.block, p.off + 2, none⟩ = some (.int .i64 o.a) ∧
    w.cell? ⟨p.block, p.off + 3, none⟩ = some (.int .u8 (o.m.toNat : Int)) ∧ w.cell? ⟨p.block, p.off + 4, none⟩ = some (.string o.s) := ⟨h.k, h.n, h.a, h.m, h.s⟩
theorem OpAtS.lt {w : World} {p : Addr} {o : OpS} (h : OpAtS w p o) : p.block < w.heap.size := World.block_lt_of_cell? w p h.k
theorem OpAtS.below {B : Nat} {w w' : World} {p : Addr} {o : OpS} (h : OpAtS w p o) (hb : Below B w w') (hp : p.block < B) : OpAtS w' p o := by
  have hq : ∀ j, (p.add j).block = p.block := by intro j; unfold Addr.add; split <;> rfl
  exact ⟨(hb.cell hp).trans h.k, (hb.cell (by rw [hq]; exact hp)).trans h.n, (hb.cell (by rw [hq]; exact hp)).trans h.a, (hb.cell (by rw [hq]; exact hp)).trans h.m, (hb.cell (by rw [hq]; exact hp)).trans h.s, h.ok⟩
theorem ScriptS.below {w w' : World} {sl : Value} {l : List OpS} (h : ScriptS w sl l) (hb : Below w.heap.size w w') : ScriptS w' sl l := by
  obtain ⟨ao, cap, h1, h2, h3⟩ := h
  exact ⟨ao, cap, h1, h2, fun i o hi => by obtain ⟨a, e, ha⟩ := h3 i o hi; exact ⟨a, e, ha.below hb ha.lt⟩⟩
end Go.Proofs.Ytopiopomioglfaa
namespace Go.Proofs.Ytopiopomioglfaa
set_option maxRecDepth 100000
open Go Go.RowKit Go.ChangeShapes Go.WideShapes Go.Deep
set_option linter.unusedVariables false

theorem agg2 {cs : Array Value} {a b : Value} (h : cs.size = 2) (h0 : cs[0]? = some a) (h1 : cs[1]? = some b) : cs = #[a, b] := by
  obtain ⟨l⟩ := cs
  match l, h with
  | [x0, x1], _ => simp at h0 h1; simp_all
theorem open_vw {H : Type} {enc : TypeId × Value → H} {w : World} {base : Nat} {spare : Nat → Bool} {held : Bool} {v : Value} {d : DataW H} {p : List MemPlace}
    (hv : Value.okWide Try.prog w .any base 40 v) (h : DataW.Trod enc Try.prog w 0 spare held 40 v d p) :
    ∃ (im : ByteArray) (sl : Value) (l : List OpS), v = .agg #[.string im, sl] ∧ im.size ≤ maxLen ∧ ScriptS w sl l := by
  obtain ⟨cs, rfl, hsz, hf⟩ := read_struct Try.underlying40 (by kernel_rfl) (by kernel_rfl) hv h
  obtain ⟨c0, e0, r0⟩ := hf 0 _ rfl
  obtain ⟨c1, e1, r1⟩ := hf 1 _ rfl
  obtain ⟨im, rfl, wim⟩ := r0.string Try.underlying9
  obtain ⟨l, hl⟩ := ScriptS.of_reads Try.underlying38 Try.underlying42 (by kernel_rfl) (by kernel_rfl) rfl rfl rfl rfl rfl Try.underlying3 Try.underlying9 Try.underlying5 r1
  exact ⟨im, c1, l, by rw [agg2 hsz e0 e1], wim, hl⟩
/-- The argument's block. -/
structure ArgV (w wr : World) (im : ByteArray) (sl : Value) : Prop where
  g : wr.heap[w.heap.size]? = some (.cells #[.string im, sl] 40 (0, 0))
  b : Below w.heap.size w wr
theorem ArgV.cells {w wr : World} {im : ByteArray} {sl : Value} (h : ArgV w wr im sl) : wr.cell? ⟨w.heap.size, 0, none⟩ = some (.string im) ∧ wr.cell? ⟨w.heap.size, 1, none⟩ = some sl := by
  constructor <;> (rw [cell_of_row _ _ _ _ _ _ h.g]; rfl)
theorem ArgV.upd {w wr w' : World} {im : ByteArray} {sl : Value} (h : ArgV w wr im sl) {S : List Nat} (hu : Upd S wr w') (hS : ∀ i, i ∈ S → w.heap.size < i) : ArgV w w' im sl := by
  have hl := (Array.getElem?_eq_some_iff.1 h.g).1
  exact ⟨(hu.block _ hl (fun hm => by have := hS _ hm; omega)).trans h.g, Upd.below h.b hu (fun i hi => by have := hS i hi; omega) h.b.size⟩
theorem ArgV.start (w : World) (im : ByteArray) (sl : Value) : ArgV w (w.alloc (.cells #[.string im, sl] 40)) im sl := ⟨heap_alloc_new _ _, (Below.refl _ _).alloc (Nat.le_refl _) _⟩
/-- A call of the script in a block of its own. -/
def obS (o : OpS) : Obj := .cells #[.int .i64 o.k, .int .i64 o.n, .int .i64 o.a, .int .u8 (o.m.toNat : Int), .string o.s] 42
theorem obS_cells {w : World} {k : Nat} {o : OpS} (h : w.heap[k]? = some (obS o)) : w.cell? ⟨k, 0, none⟩ = some (.int .i64 o.k) ∧ w.cell? ⟨k, 1, none⟩ = some (.int .i64 o.n) ∧ w.cell? ⟨k, 2, none⟩ = some (.int .i64 o.a) ∧ w.cell? ⟨k, 3, none⟩ = some (.int .u8 (o.m.toNat : Int)) ∧ w.cell? ⟨k, 4, none⟩ = some (.string o.s) := by
  unfold obS at h
  refine ⟨?_, ?_, ?_, ?_, ?_⟩ <;> (rw [cell_of_row _ _ _ _ _ _ h]; rfl)
theorem keep_obS {w w1 : World} {K : Nat} {o : OpS} {S : List Nat} (h : w.heap[K]? = some (obS o)) (hu : Upd S w w1) (hK : K ∉ S) : w1.heap[K]? = some (obS o) :=
  (hu.block _ (Array.getElem?_eq_some_iff.1 h).1 hK).trans h
theorem back_ok {s : FS} (h : s.Ok) : s.back.Ok := ⟨by simp [FS.back], h.keep, h.len, h.few⟩
theorem back_still (s : FS) : s.back.Still := ⟨rfl, rfl⟩
theorem arm_n (s : FS) (n k : Int) (m : UInt8) : (s.arm n k m).1.n = s.n := by
  unfold FS.arm
  (repeat' split) <;> rfl
theorem EndR.read {F B : Nat} {s0 s : FS} {all : List UInt8} (h : EndR F B s0 s all) (hF : F + B ≤ s.n.length) : preadV s F B 0 (all.length : Nat) = (⟨all.toArray⟩, 0) := by
  have := h.la.read B all.length hF (Nat.le_refl _) (Nat.le_refl _) h.le
  rw [List.take_length] at this
  exact this
theorem EndR.sread {F B : Nat} {s0 s : FS} {A : ByteArray} (h : EndR F B s0 s A.data.toList) (hF : F + B ≤ s.n.length) : sreadV s F B (A.size : Nat) = (A, 0) := by
  have hl : A.data.toList.length = A.size := by simp
  have h1 := h.read hF
  have h2 := h.le
  rw [hl] at h1 h2
  unfold sreadV
  rw [if_pos (by omega), h1]
theorem EndR.check {F B : Nat} {s0 s : FS} {A : ByteArray} (h : EndR F B s0 s A.data.toList) (hF : F + B ≤ s.n.length) : scheckV s F B (A.size : Nat) (sumS 0 A.data.toList) = 0 := by
  unfold scheckV
  rw [h.sread hF]
  dsimp only
  rw [if_neg (by simp), if_pos rfl]
end Go.Proofs.Ytopiopomioglfaa
namespace Go.Proofs.Ytopiopomioglfaa
set_option maxRecDepth 100000
set_option linter.unusedVariables false
open Go Go.RowKit

/-- Outside of f, t the bytes are what they were. -/
structure OutB (s s' : FS) (f t : Nat) : Prop where
  len : s'.b.length = s.b.length
  at_ : ∀ k, (k < f ∨ t ≤ k) → s'.b[k]? = s.b[k]?
theorem OutB.refl (s : FS) (f t : Nat) : OutB s s f t := ⟨rfl, fun _ _ => rfl⟩
theorem OutB.trans {a b c : FS} {f t : Nat} (h : OutB a b f t) (k : OutB b c f t) : OutB a c f t := ⟨k.len.trans h.len, fun i hi => (k.at_ i hi).trans (h.at_ i hi)⟩
theorem program_out (s : FS) (A : Int) (l : List UInt8) (f t : Nat) (h0 : (f : Int) ≤ A) (h1 : A + l.length ≤ t) : OutB s (s.program A l).1 f t := by
  unfold FS.program
  (repeat' split) <;> first
    | exact OutB.refl _ _ _
    | exact ⟨progBytes_length _ _ _ _ _ _, fun k hk => progBytes_get _ _ _ _ _ _ _ (by omega)⟩
theorem pw_out : ∀ (n : Nat) (s : FS) (A : Int) (l : List UInt8) (f t : Nat), (f : Int) ≤ A → A + l.length ≤ t → OutB s (FS.pw n s A l).1 f t
  | 0, s, A, l, f, t, _, _ => OutB.refl _ _ _
  | n + 1, s, A, l, f, t, h0, h1 => by
    by_cases hl : l = []
    · subst hl; rw [FS.pw_nil]; exact OutB.refl _ _ _
    · rw [FS.pw_step _ _ _ _ hl]
      obtain ⟨m, hm⟩ : ∃ m, m = min l.length (64 - (A % 64).toNat) := ⟨_, rfl⟩
      rw [← hm]
      have hll : (l.take m).length = m := by rw [List.length_take]; omega
      have hd : (l.drop m).length = l.length - m := List.length_drop ..
      have p1 := program_out s A (l.take m) f t h0 (by rw [hll]; omega)
      split
      · exact p1
      · exact p1.trans (pw_out n _ (A + m) (l.drop m) f t (by omega) (by rw [hd]; omega))
theorem pwrite_out (s : FS) (F B : Nat) (at_ : Int) (l : List UInt8) : OutB s (s.pwrite F B at_ l).1 (512 * F) (512 * F + 512 * B) := by
  unfold FS.pwrite
  split
  · rename_i h
    rw [inB_iff] at h
    exact pw_out _ _ _ _ _ _ (by omega) (by omega)
  · exact OutB.refl _ _ _
theorem eraseUpto_out (b : List UInt8) (base m : Nat) (gone : Bool) (keep : Int) (mask : UInt8) (k : Nat) (h : k < base ∨ base + m ≤ k) : (eraseUpto b base m gone keep mask)[k]? = b[k]? := by
  rw [eraseUpto_at]
  cases b[k]? with
  | none => rfl
  | some o => simp only [Option.map_some]; rw [if_neg (by omega)]
theorem perase_out (s : FS) (F B : Nat) (k : Int) : OutB s (s.perase F B k).1 (512 * F) (512 * F + 512 * B) := by
  unfold FS.perase
  split
  · unfold FS.erase
    (repeat' split) <;> first
      | exact OutB.refl _ _ _
      | exact ⟨eraseUpto_length _ _ _ _ _ _, fun j hj => eraseUpto_out _ _ _ _ _ _ _ (by omega)⟩
  · exact OutB.refl _ _ _
theorem arm_out (s : FS) (n keep : Int) (mask : UInt8) (f t : Nat) : OutB s (s.arm n keep mask).1 f t ∧ (s.arm n keep mask).1.n = s.n := by
  unfold FS.arm
  (repeat' split) <;> exact ⟨⟨rfl, fun _ _ => rfl⟩, rfl⟩
theorem back_out (s : FS) (f t : Nat) : OutB s s.back f t ∧ s.back.n = s.n := ⟨⟨rfl, fun _ _ => rfl⟩, rfl⟩
theorem bai {a b : ByteArray} (h : a.data.toList = b.data.toList) : a = b := by
  cases a; cases b
  exact congrArg ByteArray.mk (Array.toList_inj.1 h)
/-- Outside all is 0: as strings. -/
def Zo (s : FS) (f t : Nat) : Prop := ∀ k, (k < f ∨ t ≤ k) → k < s.b.length → s.b[k]? = some 0
theorem Zo.out {s s' : FS} {f t : Nat} (h : Zo s f t) (o : OutB s s' f t) : Zo s' f t := fun k hk hl => (o.at_ k hk).trans (h k hk (by rw [o.len] at hl; exact hl))
theorem Zo.lo {s : FS} {f t : Nat} (h : Zo s f t) (hf : f ≤ s.b.length) : ((⟨s.b.toArray⟩ : ByteArray).extract 0 f) = ⟨(List.replicate f 0).toArray⟩ := by
  apply bai
  simp only [ByteArray.data_extract, Array.toList_extract, List.extract_eq_take_drop, List.drop_zero, Nat.sub_zero]
  apply List.ext_getElem?
  intro k
  rw [List.getElem?_take, List.getElem?_replicate]
  by_cases hk : k < f
  · rw [if_pos hk, if_pos hk, h k (.inl hk) (by omega)]
  · rw [if_neg hk, if_neg hk]
theorem Zo.hi {s : FS} {f t : Nat} (h : Zo s f t) (ht : t ≤ s.b.length) : ((⟨s.b.toArray⟩ : ByteArray).extract t s.b.length) = ⟨(List.replicate (s.b.length - t) 0).toArray⟩ := by
  apply bai
  simp only [ByteArray.data_extract, Array.toList_extract, List.extract_eq_take_drop]
  apply List.ext_getElem?
  intro k
  rw [List.getElem?_take, List.getElem?_drop, List.getElem?_replicate]
  by_cases hk : k < s.b.length - t
  · rw [if_pos hk, if_pos hk, h (t + k) (.inr (by omega)) (by omega)]
  · rw [if_neg hk, if_neg hk]
end Go.Proofs.Ytopiopomioglfaa
