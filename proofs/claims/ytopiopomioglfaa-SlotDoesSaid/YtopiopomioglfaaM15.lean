/- A part and the document's, in one state: quiet counts; what stands between the calls of a script. The slots' laws: laid. The slots' laws: the numbers of the calls whose answers the document fixes. The slots' laws: the calls whose answers the document fixes. The slots' laws: whatever pieces, one image: plain laws. The slots' laws: a piece that does not fit; what lies outside of an image: plain laws. -/
import Derived.Test.YtopiopomioglfaaM14
import Derived.Deep.QuietTactic
namespace Go.Proofs.Ytopiopomioglfaa
set_option maxRecDepth 100000
set_option linter.unusedVariables false
open Go Go.RowKit

theorem quiet_calls2 {P : Program} {f : FuncId} {args : Array Value} {w : World} {n : Nat} {v : Value}
    (h : Calls P f args (w.drewN n) fun e w' => e = .returned v ∧ ∃ m, w' = (w.drewN n).drewN m) : Calls P f args (w.drewN n) fun e w'' => e = .returned v ∧ ∃ m, w'' = w.drewN m :=
  h.mono fun _ _ ⟨he, m, hm⟩ => ⟨he, n + m, by rw [hm, World.drewN_drewN]⟩
/-- Blocks that are apart: a part, its flash; the document's. -/
structure Apar (B0 q p bb cb q' p' bb' cb' : Nat) : Prop where
  l1 : B0 < q ∧ B0 < p ∧ B0 < bb ∧ B0 < cb
  l2 : B0 < q' ∧ B0 < p' ∧ B0 < bb' ∧ B0 < cb'
  n1 : q ≠ p ∧ q ≠ bb ∧ q ≠ cb
  n2 : q' ≠ p' ∧ q' ≠ bb' ∧ q' ≠ cb'
  a : q ≠ q' ∧ q ≠ p' ∧ q ≠ bb' ∧ q ≠ cb'
  b : p ≠ q' ∧ p ≠ p' ∧ p ≠ bb' ∧ p ≠ cb'
  c : bb ≠ q' ∧ bb ≠ p' ∧ bb ≠ bb' ∧ bb ≠ cb'
  d : cb ≠ q' ∧ cb ≠ p' ∧ cb ≠ bb' ∧ cb ≠ cb'
/-- A part over a flash, and the document's. -/
structure PdS (wr : World) (F B : Int) (q p bb cb q' p' bb' cb' : Nat) (s s' : FS) : Prop where
  f : Fl 76 wr p bb cb s
  pa : Pa wr q p F B
  m : Fl 57 wr p' bb' cb' s'
  ra : RPa wr q' p' F B
theorem nm3 {x a b c : Nat} (h1 : x ≠ a) (h2 : x ≠ b) (h3 : x ≠ c) : x ∉ [a, b, c] := by simp [h1, h2, h3]
theorem Apar.s1 {B0 q p bb cb q' p' bb' cb' : Nat} (n : Apar B0 q p bb cb q' p' bb' cb') : q ∉ [p, bb, cb] ∧ q' ∉ [p, bb, cb] ∧ p' ∉ [p, bb, cb] ∧ bb' ∉ [p, bb, cb] ∧ cb' ∉ [p, bb, cb] :=
  ⟨nm3 n.n1.1 n.n1.2.1 n.n1.2.2, nm3 n.b.1.symm n.c.1.symm n.d.1.symm, nm3 n.b.2.1.symm n.c.2.1.symm n.d.2.1.symm, nm3 n.b.2.2.1.symm n.c.2.2.1.symm n.d.2.2.1.symm, nm3 n.b.2.2.2.symm n.c.2.2.2.symm n.d.2.2.2.symm⟩
theorem Apar.s2 {B0 q p bb cb q' p' bb' cb' : Nat} (n : Apar B0 q p bb cb q' p' bb' cb') : q' ∉ [p', bb', cb'] ∧ q ∉ [p', bb', cb'] ∧ p ∉ [p', bb', cb'] ∧ bb ∉ [p', bb', cb'] ∧ cb ∉ [p', bb', cb'] :=
  ⟨nm3 n.n2.1 n.n2.2.1 n.n2.2.2, nm3 n.a.2.1 n.a.2.2.1 n.a.2.2.2, nm3 n.b.2.1 n.b.2.2.1 n.b.2.2.2, nm3 n.c.2.1 n.c.2.2.1 n.c.2.2.2, nm3 n.d.2.1 n.d.2.2.1 n.d.2.2.2⟩
theorem Apar.g1 {B0 q p bb cb q' p' bb' cb' : Nat} (n : Apar B0 q p bb cb q' p' bb' cb') : ∀ i, i ∈ [p, bb, cb] → B0 < i := by
  have := n.l1; intro i hi; simp only [List.mem_cons, List.not_mem_nil, or_false] at hi; rcases hi with rfl | rfl | rfl <;> omega
theorem Apar.g2 {B0 q p bb cb q' p' bb' cb' : Nat} (n : Apar B0 q p bb cb q' p' bb' cb') : ∀ i, i ∈ [p', bb', cb'] → B0 < i := by
  have := n.l2; intro i hi; simp only [List.mem_cons, List.not_mem_nil, or_false] at hi; rcases hi with rfl | rfl | rfl <;> omega
theorem PdS.one {wr w1 : World} {F B : Int} {B0 q p bb cb q' p' bb' cb' : Nat} {s s' s1 : FS} (h : PdS wr F B q p bb cb q' p' bb' cb' s s') (n : Apar B0 q p bb cb q' p' bb' cb') (hf : Fl 76 w1 p bb cb s1) (hu : Upd [p, bb, cb] wr w1) :
    PdS w1 F B q p bb cb q' p' bb' cb' s1 s' := by
  obtain ⟨n1, n2, n3, n4, n5⟩ := n.s1
  exact ⟨hf, h.pa.upd hu n1, h.m.upd hu n3 n4 n5, h.ra.upd hu n2⟩
theorem PdS.two {wr w1 : World} {F B : Int} {B0 q p bb cb q' p' bb' cb' : Nat} {s s' s1 : FS} (h : PdS wr F B q p bb cb q' p' bb' cb' s s') (n : Apar B0 q p bb cb q' p' bb' cb') (hf : Fl 57 w1 p' bb' cb' s1) (hu : Upd [p', bb', cb'] wr w1) :
    PdS w1 F B q p bb cb q' p' bb' cb' s s1 := by
  obtain ⟨n1, n2, n3, n4, n5⟩ := n.s2
  exact ⟨h.f.upd hu n3 n4 n5, h.pa.upd hu n2, hf, h.ra.upd hu n1⟩
theorem PdS.same {wr w1 : World} {F B : Int} {q p bb cb q' p' bb' cb' : Nat} {s s' : FS} (h : PdS wr F B q p bb cb q' p' bb' cb' s s') (hu : Upd [] wr w1) :
    PdS w1 F B q p bb cb q' p' bb' cb' s s' :=
  ⟨h.f.upd hu (by simp) (by simp) (by simp), h.pa.upd hu (by simp), h.m.upd hu (by simp) (by simp) (by simp), h.ra.upd hu (by simp)⟩
theorem PdS.lt {wr : World} {F B : Int} {q p bb cb q' p' bb' cb' : Nat} {s s' : FS} (h : PdS wr F B q p bb cb q' p' bb' cb' s s') : (q < wr.heap.size ∧ p < wr.heap.size ∧ bb < wr.heap.size ∧ cb < wr.heap.size) ∧ (q' < wr.heap.size ∧ p' < wr.heap.size ∧ bb' < wr.heap.size ∧ cb' < wr.heap.size) :=
  ⟨⟨h.pa.lt, h.f.lt⟩, ⟨h.ra.lt, h.m.lt⟩⟩
end Go.Proofs.Ytopiopomioglfaa
namespace Go.Proofs.Ytopiopomioglfaa
set_option maxRecDepth 100000
set_option linter.unusedVariables false
open Go Go.RowKit

/-- The bytes of the flash that is laid. -/
def imgS (s : ByteArray) : List UInt8 := List.replicate 512 0 ++ blkS s
theorem imgS_len (s : ByteArray) : (imgS s).length = 512 + (blkS s).length := by unfold imgS; rw [List.length_append, List.length_replicate]
def lfs (s : ByteArray) : FS := FS.new (imgS s)
theorem lfs_b (s : ByteArray) : (lfs s).b = imgS s := rfl
theorem lfs_n (s : ByteArray) : (lfs s).n.length = (imgS s).length / 512 := by unfold lfs FS.new; simp only [List.length_replicate]
theorem lfs_size (s : ByteArray) : sizeB (imgS s).length = true := by
  have := blkS_len s; have := imgS_len s
  unfold sizeB; rw [decide_eq_true_iff]; omega
theorem lfs_ok (s : ByteArray) : (lfs s).Ok := FS.new_ok (lfs_size s)
theorem lfs_still (s : ByteArray) : (lfs s).Still := FS.new_still _
theorem lfs_two (s : ByteArray) : 2 ≤ (lfs s).n.length ∧ (lfs s).n.length ≤ 8 := by
  have := blkS_len s; have := imgS_len s; have := lfs_n s; omega
theorem lfs_in (s : ByteArray) : In (lfs s).n.length 1 (((lfs s).n.length : Int) - 1) := by
  have := lfs_two s; exact ⟨by omega, by omega, by omega, by omega⟩
/-- What laid leaves. -/
def LaidAt (s : ByteArray) (w : World) (e : Ending) (w' : World) : Prop :=
  ∃ q p bb cb q' p' bb' cb', e = .returned (.tuple #[.pointer (some ⟨p, 0, none⟩), .pointer (some ⟨q, 0, none⟩), .pointer (some ⟨p', 0, none⟩), .pointer (some ⟨q', 0, none⟩)]) ∧
    PdS w' 1 (((lfs s).n.length : Int) - 1) q p bb cb q' p' bb' cb' (lfs s) (lfs s) ∧ (∀ B0, B0 < w.heap.size → Apar B0 q p bb cb q' p' bb' cb') ∧ q ∉ [p, bb, cb] ∧ (∀ k, k ∈ [q, p, bb, cb] → w.heap.size ≤ k) ∧ Below w.heap.size w w'
set_option maxHeartbeats 4000000 in
theorem laid_any (s : ByteArray) (hs : s.size ≤ 9223372036854775807) (w : World) : Calls Try.prog 7 #[.string s] w (LaidAt s w) := by
  obtain ⟨Z, hZ⟩ : ∃ Z : ByteArray, Z = ⟨(List.replicate 512 0).toArray⟩ := ⟨_, rfl⟩
  obtain ⟨I, hI⟩ : ∃ I : ByteArray, I = ⟨(imgS s).toArray⟩ := ⟨_, rfl⟩
  have BL := Box.mk (fun w => blocks_of s hs w)
  obtain ⟨K, hK⟩ : ∃ K : ByteArray, K = ⟨(blkS s).toArray⟩ := ⟨_, rfl⟩
  rw [← hK] at BL
  have HI : Box (Z ++ K = I) := ⟨by rw [hZ, hK, hI]; unfold imgS; apply ByteArray.ext; rw [ByteArray.data_append]; apply Array.toList_inj.1; simp⟩
  have hzs : Z.size = 512 := by rw [hZ]; rfl
  have hks : K.size ≤ 3584 := by rw [hK]; have := (blkS_len s).2.2; show (blkS s).toArray.size ≤ _; rw [List.size_toArray]; exact this
  have hmk := fun w => make_bytes 512 512 rfl (by omega) w
  have hcv := fun w => zeros_str 512 w
  have ZA := Box.mk (fun g W h => zeros_at 512 g W h)
  rw [← hZ] at hcv ZA
  have hcv1 := ZA.out w.heap.size (w.alloc (.cells (Array.replicate 512 (.int .u8 0)) 5)).drew (heap_alloc_new w _)
  have hIl : I.data.toList = imgS s := by rw [hI]
  have OP := Box.mk (fun w => open_yes I w (by rw [show I.size = (imgS s).length by rw [hI]; rfl]; exact lfs_size s))
  have RO := Box.mk (fun w => ropen_yes I w (by rw [show I.size = (imgS s).length by rw [hI]; rfl]; exact lfs_size s))
  unfold Made at OP RO
  rw [hIl] at OP RO
  have OV := Box.mk (fun p bb cb w h => over_any p bb cb (lfs s) w h (lfs_ok s) (lfs_two s).1)
  have RN := Box.mk (fun p bb cb w h => rpnew_yes p bb cb 1 (((lfs s).n.length : Int) - 1) (lfs s) w h (lfs_in s))
  have hn2 := lfs_two s
  have hw1 : IntKind.i64.wrap (((lfs s).n.length : Int) - 1) = ((lfs s).n.length : Int) - 1 := by rw [IntKind.wrap_i64]; omega
  change Box (∀ w, Calls _ _ _ w fun e w' => ∃ p bb cb, _ ∧ Fl 76 w' p bb cb (lfs s) ∧ _) at OP
  change Box (∀ w, Calls _ _ _ w fun e w' => ∃ p bb cb, _ ∧ Fl 57 w' p bb cb (lfs s) ∧ _) at RO
  unfold LaidAt
  generalize lfs s = F0 at OP RO OV RN hw1 hn2 ⊢
  clear hZ hI hK hIl
  go_enter Try.func7, Try.ntmps7
  go_upto_region 1 with (fail)
  go_cut [6] (fun v wx => v = .string I ∧ Below w.heap.size w wx)
  case first =>
    go_region_with (go_at_call 27; refine (BL.out _).mono ?_; rintro e w5 ⟨rfl, hb5⟩; have HB5 := Box.mk hb5; try (have hcv5 := ZA.out w.heap.size w5 ((hb5.block w.heap.size (by simp)).trans (heap_alloc_new w _))); clear hb5)
    all_goals
      go_wp2_with fail
      go_meet
      refine ⟨congrArg Value.string HI.out, ?_⟩
      first
      | exact ((Below.refl _ w).alloc (Nat.le_refl _) _).drew.trans (HB5.out.mono (by simp))
      | exact (((Below.refl _ w).drew).trans HB5.out).alloc HB5.out.size _
  case rest =>
    obtain ⟨rfl, hb⟩ := hcut
    have HB0 := Box.mk hb
    clear hcv1 hmk hcv hb
    go_wp2_with fail
    refine (OP.out _).mono ?_
    rintro e w1 ⟨p, bb, cb, rfl, hf, hp, hbb, hcb, b1⟩
    have hz0 := HB0.out.size
    have F1 := Box.mk hf; have B1 := Box.mk (HB0.out.trans (b1.mono hz0)); have L1 : Box (w.heap.size ≤ p ∧ w.heap.size ≤ bb ∧ w.heap.size ≤ cb) := ⟨by omega⟩
    clear hf hp hbb hcb b1 HB0 OP hz0
    go_wp2_with fail
    refine (RO.out _).mono ?_
    rintro e w2 ⟨p', bb', cb', rfl, hf, hp, hbb, hcb, b2⟩
    have hz0 := B1.out.size; have hl := F1.out.lt
    have F2 := Box.mk (F1.out.upd (Upd.of_below b2) (S := []) (by simp) (by simp) (by simp)); have G2 := Box.mk hf; have B2 := Box.mk (B1.out.trans (b2.mono hz0)); have L2 : Box (w.heap.size ≤ p' ∧ w.heap.size ≤ bb' ∧ w.heap.size ≤ cb') := ⟨by omega⟩
    have N1 : Box ((p ≠ p' ∧ p ≠ bb' ∧ p ≠ cb') ∧ (bb ≠ p' ∧ bb ≠ bb' ∧ bb ≠ cb') ∧ (cb ≠ p' ∧ cb ≠ bb' ∧ cb ≠ cb')) := ⟨by omega⟩
    obtain ⟨bcap, ccap, h1, h2, d0, d1, d2, d3, d4, d5, d6⟩ := hf.cells
    clear hf hp hbb hcb b2 hz0 hl F1 B1 RO h1 h2 d0 d2 d3 d4 d5 d6
    go_wp2_with fail
    refine (RN.out p' bb' cb' _ G2.out).mono ?_
    rintro e w3 ⟨q', rfl, ra, hq, b3⟩
    have hz0 := B2.out.size; have hl := F2.out.lt; have hl2 := G2.out.lt
    have F3 := Box.mk (F2.out.upd (Upd.of_below b3) (S := []) (by simp) (by simp) (by simp)); have G3 := Box.mk (G2.out.upd (Upd.of_below b3) (S := []) (by simp) (by simp) (by simp)); have R3 := Box.mk ra; have B3 := Box.mk (B2.out.trans (b3.mono hz0))
    have N2 : Box ((q' ≠ p' ∧ q' ≠ bb' ∧ q' ≠ cb') ∧ (q' ≠ p ∧ q' ≠ bb ∧ q' ≠ cb) ∧ w.heap.size ≤ q') := ⟨by omega⟩
    clear ra hq b3 hz0 hl hl2 F2 G2 B2 RN d1
    go_wp2_with fail
    refine (OV.out p bb cb _ F3.out).mono ?_
    rintro e w4 ⟨q, rfl, pa, hq, b4⟩
    have hz0 := B3.out.size; have hl := F3.out.lt; have hl2 := G3.out.lt; have hl3 := R3.out.lt
    have F4 := Box.mk (F3.out.upd (Upd.of_below b4) (S := []) (by simp) (by simp) (by simp)); have G4 := Box.mk (G3.out.upd (Upd.of_below b4) (S := []) (by simp) (by simp) (by simp)); have R4 := Box.mk (R3.out.upd (Upd.of_below b4) (S := []) (by simp)); have P4 := Box.mk pa; have B4 := Box.mk (B3.out.trans (b4.mono hz0))
    have N3 : Box ((q ≠ p ∧ q ≠ bb ∧ q ≠ cb) ∧ (q ≠ q' ∧ q ≠ p' ∧ q ≠ bb' ∧ q ≠ cb') ∧ w.heap.size ≤ q) := ⟨by omega⟩
    clear pa hq b4 hz0 hl hl2 hl3 F3 G3 R3 B3 OV
    go_wp2_with fail
    refine bodyPost_ret (v := .tuple #[.pointer (some ⟨p, 0, none⟩), .pointer (some ⟨q, 0, none⟩), .pointer (some ⟨p', 0, none⟩), .pointer (some ⟨q', 0, none⟩)]) (by simp [results, Try.results7, go_sem]) rfl ?_
    refine ⟨q, p, bb, cb, q', p', bb', cb', rfl, ⟨F4.out, P4.out, G4.out, R4.out⟩, fun B0 h0 => ?_, nm3 N3.out.1.1 N3.out.1.2.1 N3.out.1.2.2, (by
      have l1 := L1.out; have l3 := N3.out.2.2
      intro k hk; simp only [List.mem_cons, List.not_mem_nil, or_false] at hk; rcases hk with rfl | rfl | rfl | rfl <;> omega), B4.out⟩
    have n1 := N1.out; have n2 := N2.out; have n3 := N3.out; have l1 := L1.out; have l2 := L2.out
    exact ⟨by omega, by omega, n3.1, n2.1, n3.2.1, ⟨n2.2.1.1.symm, n1.1⟩, ⟨n2.2.1.2.1.symm, n1.2.1⟩, ⟨n2.2.1.2.2.symm, n1.2.2⟩⟩
end Go.Proofs.Ytopiopomioglfaa
namespace Go.Proofs.Ytopiopomioglfaa
set_option maxRecDepth 100000
set_option linter.unusedVariables false
open Go Go.RowKit Sha

/-- What was laid is read. -/
theorem Laid.read {s0 s : FS} {F m : Nat} {all : List UInt8} (h : Laid s0 s F all m) (B n : Nat) (hF : F + B ≤ s.n.length) (hn : n ≤ m) (hm : m ≤ all.length) (hB : n ≤ 512 * B) : preadV s F B 0 n = (⟨(all.take n).toArray⟩, 0) := by
  have hlen := h.ok.len
  have hin : inB B 0 n = true := by rw [inB_iff]; omega
  unfold preadV
  rw [if_pos hin, if_neg (by rw [h.still.dead]; decide), show (512 * (F : Int) + 0).toNat = 512 * F by omega, Int.toNat_natCast]
  congr 3
  apply List.ext_getElem?
  intro i
  rw [List.getElem?_take, List.getElem?_take, List.getElem?_drop]
  by_cases hi : i < n
  · rw [if_pos hi, if_pos hi, h.at_ i (by omega)]
  · rw [if_neg hi, if_neg hi]
theorem program_steps {s : FS} (h : s.Still) (A : Nat) (l : List UInt8) (hl : l ≠ []) (hA : A + l.length ≤ s.b.length) (hp : (A : Int) / 64 = ((A : Int) + l.length - 1) / 64) : (s.program A l).1.steps = wrap64 (s.steps + 1) := by
  rw [FS.program_go s A l h.dead hl hA hp]; rfl
theorem pw_steps {s : FS} (h : s.Still) (f A : Nat) (l : List UInt8) (hl : l ≠ []) (hA : A + l.length ≤ s.b.length) (hp : A % 64 + l.length ≤ 64) : (FS.pw (f + 1) s A l).1.steps = wrap64 (s.steps + 1) := by
  have hl1 : 1 ≤ l.length := by cases l with | nil => exact absurd rfl hl | cons a t => simp
  have hm : min l.length (64 - ((A : Int) % 64).toNat) = l.length := by omega
  rw [FS.pw_step _ _ _ _ hl, hm, List.take_of_length_le (Nat.le_refl _), List.drop_eq_nil_of_le (Nat.le_refl _), FS.pw_nil]
  have := program_steps h A l hl hA (by omega)
  split <;> exact this
theorem pwrite_steps {s : FS} (h : s.Still) (F B A : Nat) (l : List UInt8) (hl : l ≠ []) (hA : A + l.length ≤ 512 * B) (hF : 512 * F + 512 * B ≤ s.b.length) (hp : A % 64 + l.length ≤ 64) : (s.pwrite F B A l).1.steps = wrap64 (s.steps + 1) := by
  have hl1 : 1 ≤ l.length := by cases l with | nil => exact absurd rfl hl | cons a t => simp
  have hin : inB B A l.length = true := by rw [inB_iff]; omega
  unfold FS.pwrite
  rw [if_pos hin, show (512 * (F : Int) + (A : Int)) = ((512 * F + A : Nat) : Int) by omega, show l.length = (l.length - 1) + 1 by omega]
  exact pw_steps h _ _ l hl (by omega) (by omega)
theorem perase_steps {s : FS} (h : s.Still) (F B k : Nat) (hk : k < B) (hF : F + B ≤ s.n.length) : (s.perase F B k).1.steps = wrap64 (s.steps + 1) := by
  unfold FS.perase FS.erase
  rw [if_pos (by omega), if_neg (by rw [h.dead]; decide), if_neg (by unfold blkB; rw [decide_eq_false_iff_not]; omega)]
  rfl
def nil0 : ByteArray := ⟨#[]⟩
theorem lfs0_b : (lfs nil0).b = List.replicate 1024 0 := by
  rw [lfs_b]; unfold imgS blkS
  rw [show nil0.data.toList = [] from rfl, show nil0.size = 0 from rfl, List.take_nil, List.nil_append, List.replicate_append_replicate]
  exact congrArg (List.replicate · 0) (by decide)
theorem lfs0_n : (lfs nil0).n.length = 2 := by
  rw [lfs_n]; have : (imgS nil0).length = 1024 := by rw [← lfs_b, lfs0_b, List.length_replicate]
  rw [this]
def z100 : List UInt8 := List.replicate 100 0
theorem z100_len : z100.length = 100 := by unfold z100; rw [List.length_replicate]
/-- What the first Write of 100 bytes leaves. -/
structure Fix1 (s0 s1 : FS) (l : List UInt8) (ws1 : WS) (a : Int) : Prop where
  ok : a = 0
  st : s1.steps = wrap64 (wrap64 (s0.steps + 1) + 1)
  la : Laid s0 s1 1 l 64
  w : ws1 = ⟨l, 64, 100, false, 0⟩
theorem fix1 {s0 : FS} {l : List UInt8} (st : s0.Still) (ok : s0.Ok) (hn : s0.n.length = 2) (hl : l.length = 100) (hcl : pcleanV s0 (1 : Nat) (1 : Nat) (512 * 0 : Nat) 512 = (false, 0)) :
    Fix1 s0 (WS.new.write (1 : Nat) (1 : Nat) s0 l).1 l (WS.new.write (1 : Nat) (1 : Nat) s0 l).2.1 (WS.new.write (1 : Nat) (1 : Nat) s0 l).2.2 := by
  have hlen := ok.len
  have hp := Laid.pages (s0 := s0) (F := 1) (B := 1) (all := l) (by omega) (by omega) 1 s0 0 (Laid.start st ok 1 l) (by omega) (by omega)
  have hk : l.length / 64 - WS.new.made / 64 = 1 := by rw [hl]; rfl
  have e : WS.new.write (1 : Nat) (1 : Nat) s0 l = ((FS.wto (1 : Nat) (1 : Nat) l 1 s0 0).1, { WS.new with all := l, made := (FS.wto (1 : Nat) (1 : Nat) l 1 s0 0).2.2, came := if (FS.wto (1 : Nat) (1 : Nat) l 1 s0 0).2.1 = 0 then l.length else 0, e := (FS.wto (1 : Nat) (1 : Nat) l 1 s0 0).2.1 }, (FS.wto (1 : Nat) (1 : Nat) l 1 s0 0).2.1) := by
    unfold WS.write
    rw [if_neg (by simp [WS.new]), if_neg (by simp [WS.new]), if_neg (by simp [WS.new, hl]), show (WS.new.all ++ l) = l from rfl, hk]
    rfl
  rw [e]
  refine ⟨hp.1, ?_, hp.2.2, ?_⟩
  · have h64 : ((l.drop 0).take 64).length = 64 := by rw [List.length_take, List.length_drop, hl]; rfl
    have hne : (l.drop 0).take 64 ≠ [] := fun h => by rw [h] at h64; simp at h64
    have c := wclean_still st ok 1 1 0 (by omega) (by omega)
    have hw : s0.wclean (1 : Nat) (1 : Nat) 0 = s0.perase (1 : Nat) (1 : Nat) ((0 : Nat) : Int) := by
      unfold FS.wclean
      rw [hcl, if_neg (by simp), if_neg (by simp)]
    rw [hw] at c
    have es := perase_steps st 1 1 0 (by omega) (by omega)
    have hwp : s0.wpage (1 : Nat) (1 : Nat) 0 ((l.drop 0).take 64) = (s0.perase (1 : Nat) (1 : Nat) ((0 : Nat) : Int)).1.pwrite (1 : Nat) (1 : Nat) ((0 : Nat) : Int) ((l.drop 0).take 64) := by
      unfold FS.wpage
      rw [if_pos rfl, Nat.zero_div, hw, if_neg (by rw [c.ok]; simp)]
    have hst : (s0.wpage (1 : Nat) (1 : Nat) 0 ((l.drop 0).take 64)).1.steps = wrap64 (wrap64 (s0.steps + 1) + 1) := by
      rw [hwp, ← es]
      exact pwrite_steps c.still 1 1 0 ((l.drop 0).take 64) hne (by rw [h64]; omega) (by rw [c.len]; omega) (by rw [h64]; omega)
    show (FS.wto (1 : Nat) (1 : Nat) l 1 s0 0).1.steps = _
    rw [FS.wto]
    split
    · exact hst
    · exact hst
  · dsimp only
    rw [hp.1, hp.2.1, if_pos rfl, hl]; rfl
structure Fix2 (s0 s1 s2 : FS) (l : List UInt8) (ws2 : WS) (b : Int) : Prop where
  ok : b = 0
  st : s2.steps = wrap64 (s1.steps + 1)
  la : Laid s0 s2 1 l 100
  w : ws2 = ⟨l, 100, 100, true, 0⟩
theorem fix2 {s0 s1 : FS} {l : List UInt8} (hn : s0.n.length = 2) (hl : l.length = 100) (h : Laid s0 s1 1 l 64) :
    Fix2 s0 s1 ((⟨l, 64, 100, false, 0⟩ : WS).fin (1 : Nat) (1 : Nat) s1).1 l ((⟨l, 64, 100, false, 0⟩ : WS).fin (1 : Nat) (1 : Nat) s1).2.1 ((⟨l, 64, 100, false, 0⟩ : WS).fin (1 : Nat) (1 : Nat) s1).2.2 := by
  have hll : (l.drop 64).length = 36 := by rw [List.length_drop, hl]
  have hlen := h.ok.len; have hnn := h.n
  obtain ⟨p1, p2⟩ := h.page 1 (by omega) (by omega) (l.drop 64) (by omega) (by omega) (by omega) (fun j hj => by rw [List.getElem?_drop])
  unfold WS.fin
  rw [if_neg (by simp), if_neg (by simp), if_pos (by show l.length > 64; omega)]
  dsimp only
  rw [hll] at p2
  refine ⟨p1, ?_, p2, ?_⟩
  · have hne : l.drop 64 ≠ [] := fun h => by rw [h] at hll; simp at hll
    have e : s1.wpage (1 : Nat) (1 : Nat) 64 (l.drop 64) = s1.pwrite (1 : Nat) (1 : Nat) ((64 : Nat) : Int) (l.drop 64) := by unfold FS.wpage; rw [if_neg (by decide)]
    rw [e]
    exact pwrite_steps h.still 1 1 64 (l.drop 64) hne (by omega) (by omega) (by omega)
  · rw [p1, if_pos rfl, hl]
theorem lfs0_dirty : pcleanV (lfs nil0) (1 : Nat) (1 : Nat) (512 * 0 : Nat) 512 = (false, 0) := by
  have h1 : (512 * ((1 : Nat) : Int) + ((512 * 0 : Nat) : Int)).toNat = 512 := by omega
  have e1 : preadV (lfs nil0) (1 : Nat) (1 : Nat) (512 * 0 : Nat) 512 = (⟨(List.replicate 512 (0 : UInt8)).toArray⟩, 0) := by
    unfold preadV
    rw [if_pos (by rw [inB_iff]; omega), if_neg (by rw [(lfs_still nil0).dead]; decide), lfs0_b, h1, List.drop_replicate, List.take_replicate]
    rfl
  have e2 : ffs ⟨(List.replicate 512 (0 : UInt8)).toArray⟩ = 0 := by
    unfold ffs Lib.countByte
    show List.count 255 (List.replicate 512 (0 : UInt8)) = 0
    rw [List.count_replicate]; rfl
  have e3 : (⟨(List.replicate 512 (0 : UInt8)).toArray⟩ : ByteArray).size = 512 := by show (List.replicate 512 (0 : UInt8)).toArray.size = 512; rw [List.size_toArray, List.length_replicate]
  unfold pcleanV
  rw [e1, if_pos rfl]
  dsimp only
  rw [e2, e3]
  rfl
theorem lfs0_steps : (lfs nil0).steps = 0 := rfl
theorem sums_apart : (sumS 0 (List.replicate 99 0)).toList ≠ (sumS 0 z100).toList := by
  unfold z100
  decide +kernel
end Go.Proofs.Ytopiopomioglfaa
namespace Go.Proofs.Ytopiopomioglfaa
set_option maxRecDepth 100000
set_option linter.unusedVariables false
open Go Go.RowKit Sha

theorem begin_sw {w : World} {g q : Nat} (h : Swr w g q (List.replicate 64 0) 0 false 0) : Sw w g q WS.new (List.replicate 64 0) := ⟨h, fun _ _ => rfl⟩
theorem belU {S : List Nat} {a b c : World} (h : Below a.heap.size a b) (u : Upd S b c) (hS : ∀ k, k ∈ S → a.heap.size ≤ k) : Below a.heap.size a c := Upd.below h u hS h.size
/-- A writer over a part over a flash, of the call's own. -/
structure SlS (B0 : Nat) (wr : World) (F B : Int) (g q p bb cb : Nat) (s : FS) (ws : WS) : Prop where
  fl : Fl 76 wr p bb cb s
  pa : Pa wr q p F B
  sw : ∃ pg, Sw wr g q ws pg
  sp : Spl g q p bb cb
  lo : ∀ k, k ∈ [g, q, p, bb, cb] → B0 ≤ k
theorem SlS.keep {B0 : Nat} {wr w1 : World} {F B : Int} {g q p bb cb : Nat} {s : FS} {ws : WS} {S : List Nat} (h : SlS B0 wr F B g q p bb cb s ws) (u : Upd S wr w1) (hS : ∀ k, k ∈ [g, q, p, bb, cb] → k ∉ S) : SlS B0 w1 F B g q p bb cb s ws := by
  obtain ⟨pg, hw⟩ := h.sw
  exact ⟨h.fl.upd u (hS _ (by simp)) (hS _ (by simp)) (hS _ (by simp)), h.pa.upd u (hS _ (by simp)), ⟨pg, hw.upd u (hS _ (by simp))⟩, h.sp, h.lo⟩
theorem SlS.same {B0 : Nat} {wr w1 : World} {F B : Int} {g q p bb cb : Nat} {s : FS} {ws : WS} (h : SlS B0 wr F B g q p bb cb s ws) (u : Upd [] wr w1) : SlS B0 w1 F B g q p bb cb s ws := h.keep u (by simp)
theorem SlS.next {B0 : Nat} {wr w1 : World} {F B : Int} {g q p bb cb : Nat} {s s1 : FS} {ws ws1 : WS} (h : SlS B0 wr F B g q p bb cb s ws) (hf : Fl 76 w1 p bb cb s1) (hw : ∃ pg, Sw w1 g q ws1 pg) (u : Upd [g, p, bb, cb] wr w1) : SlS B0 w1 F B g q p bb cb s1 ws1 :=
  ⟨hf, h.pa.upd u h.sp.p.2.2.2, hw, h.sp, h.lo⟩
theorem SlS.mem {B0 : Nat} {wr : World} {F B : Int} {g q p bb cb : Nat} {s : FS} {ws : WS} (h : SlS B0 wr F B g q p bb cb s ws) : ∀ k, k ∈ [g, p, bb, cb] → B0 ≤ k := fun k hk => h.lo k (by simp only [List.mem_cons, List.not_mem_nil, or_false] at hk ⊢; rcases hk with h | h | h | h <;> simp [h])
/-- A new writer over the same. -/
theorem SlS.begin {B0 : Nat} {wr w1 : World} {F B : Int} {q p bb cb : Nat} {s : FS} (hf : Fl 76 wr p bb cb s) (hp : Pa wr q p F B) (hq : q ∉ [p, bb, cb]) (hlo : ∀ k, k ∈ [q, p, bb, cb] → B0 ≤ k) (hB : B0 ≤ wr.heap.size) (hs : Swr w1 wr.heap.size q (List.replicate 64 0) 0 false 0) (b : Below wr.heap.size wr w1) : SlS B0 w1 F B wr.heap.size q p bb cb s WS.new := by
  have h1 := hf.lt; have h2 := hp.lt
  refine ⟨hf.upd (Upd.of_below b) (S := []) (by simp) (by simp) (by simp), hp.upd (Upd.of_below b) (S := []) (by simp), ⟨_, begin_sw hs⟩, ⟨nm3 (by omega) (by omega) (by omega), hq, by omega⟩, fun k hk => ?_⟩
  rcases List.mem_cons.1 hk with rfl | hk
  · exact hB
  · exact hlo k hk
set_option maxHeartbeats 8000000 in
theorem sfixed_any (w : World) : Calls Try.prog 14 #[] w fun e w' => e = .returned (.bool true) ∧ Below w.heap.size w w' := by
  have LD := Box.mk (fun w => laid_any nil0 (by decide) w)
  obtain ⟨Z, hZ⟩ : ∃ Z : ByteArray, Z = ⟨(List.replicate 100 0).toArray⟩ := ⟨_, rfl⟩
  obtain ⟨Y, hY⟩ : ∃ Z : ByteArray, Z = ⟨(List.replicate 513 0).toArray⟩ := ⟨_, rfl⟩
  have hmk := fun w => make_bytes 100 100 rfl (by omega) w
  have hmk2 := fun w => make_bytes 513 513 rfl (by omega) w
  have hcv := fun w => zeros_str 100 w
  have hcv2 := fun w => zeros_str 513 w
  rw [← hZ] at hcv
  rw [← hY] at hcv2
  have hZl : Z.data.toList = z100 := by rw [hZ]; rfl
  have hZs : Z.size = 100 := by rw [hZ]; rfl
  have hYl : Y.data.toList.length = 513 := by rw [hY]; show (List.replicate 513 (0 : UInt8)).length = 513; rw [List.length_replicate]
  have hYs : Y.size = 513 := by rw [hY]; rfl
  have ok0 := lfs_ok nil0; have st0 := lfs_still nil0; have n0 := lfs0_n
  have f1 := fix1 st0 ok0 n0 z100_len lfs0_dirty
  have hst := lfs0_steps
  unfold LaidAt at LD
  rw [n0] at LD
  generalize lfs nil0 = s0 at LD ok0 st0 n0 f1 hst
  have in0 : In s0.n.length (1 : Nat) (1 : Nat) := by rw [n0]; exact ⟨by omega, by omega, by omega, by omega⟩
  have w0 : WS.new.Ok ((1 : Nat) : Int) := WS.new_ok (by omega)
  obtain ⟨o1, n1, w1⟩ := WS.write_ok (F := (1 : Nat)) (B := (1 : Nat)) ok0 w0 z100
  have WR := Box.mk (fun g q p bb cb page w hf h hw hp => swrite_any g q p bb cb (1 : Nat) (1 : Nat) s0 WS.new page Z w hf ok0 h in0 hw w0 hp (by omega))
  rw [hZl] at WR
  generalize WS.new.write (1 : Nat) (1 : Nat) s0 z100 = r at f1 o1 n1 w1 WR
  obtain ⟨s1, ws1, a1⟩ := r
  dsimp only at f1 o1 n1 w1 WR
  obtain ⟨rfl, e1, l1, rfl⟩ := f1
  rw [hst] at e1
  have e1' : s1.steps = 2 := e1.trans (by decide +kernel)
  have in1 : In s1.n.length (1 : Nat) (1 : Nat) := by rw [n1]; exact in0
  have f2 := fix2 n0 z100_len l1
  obtain ⟨o2, n2, w2⟩ := WS.fin_ok (F := (1 : Nat)) (B := (1 : Nat)) o1 w1
  have EN := Box.mk (fun g q p bb cb page w hf h hw hp => send_any g q p bb cb (1 : Nat) (1 : Nat) s1 ⟨z100, 64, 100, false, 0⟩ page w hf o1 h in1 hw w1 hp)
  generalize WS.fin (1 : Nat) (1 : Nat) s1 ⟨z100, 64, 100, false, 0⟩ = r at f2 o2 n2 w2 EN
  obtain ⟨s2, ws2, a2⟩ := r
  dsimp only at f2 o2 n2 w2 EN
  obtain ⟨rfl, e2, l2, rfl⟩ := f2
  rw [e1'] at e2
  have e2' : s2.steps = 3 := e2.trans (by decide +kernel)
  have in2 : In s2.n.length (1 : Nat) (1 : Nat) := by rw [n2]; exact in1
  have nn2 : s2.n.length = 2 := by rw [n2, n1, n0]
  have EN2 := Box.mk (fun g q p bb cb page w hf h hw hp => send_any g q p bb cb (1 : Nat) (1 : Nat) s2 ⟨z100, 100, 100, true, 0⟩ page w hf o2 h in2 hw w2 hp)
  rw [show (⟨z100, 100, 100, true, 0⟩ : WS).fin (1 : Nat) (1 : Nat) s2 = (s2, ⟨z100, 100, 100, true, 0⟩, 240) from rfl] at EN2
  have hr100 : sreadV s2 (1 : Nat) (1 : Nat) 100 = (Z, 0) := by
    have := l2.read 1 100 (by omega) (by omega) (by rw [z100_len]; omega) (by omega)
    unfold sreadV
    rw [if_pos (by omega)]
    refine this.trans ?_
    rw [List.take_of_length_le (by rw [z100_len]; omega), hZ]; rfl
  have hr99 : sreadV s2 (1 : Nat) (1 : Nat) 99 = (⟨(List.replicate 99 0).toArray⟩, 0) := by
    have := l2.read 1 99 (by omega) (by omega) (by rw [z100_len]; omega) (by omega)
    unfold sreadV
    rw [if_pos (by omega)]
    refine this.trans ?_
    unfold z100
    rw [List.take_replicate]; rfl
  have hr513 : sreadV s2 (1 : Nat) (1 : Nat) 513 = (⟨#[]⟩, 240) := by unfold sreadV; rw [if_neg (by omega)]
  have R1 := Box.mk (fun q p bb cb w hf h => sread_any q p bb cb (1 : Nat) (1 : Nat) s2 100 w hf o2 h in2 (by omega))
  have R2 := Box.mk (fun q p bb cb w hf h => sread_any q p bb cb (1 : Nat) (1 : Nat) s2 513 w hf o2 h in2 (by omega))
  have ON := Box.mk (fun w => oneB_any 0 (.inl rfl) Z (by omega) w)
  rw [hZl] at ON
  have hc1 : scheckV s2 (1 : Nat) (1 : Nat) 100 (sumS 0 z100) = 0 := by unfold scheckV; rw [hr100]; dsimp only; rw [if_neg (by simp), hZl, if_pos rfl]
  have hc2 : scheckV s2 (1 : Nat) (1 : Nat) 99 (sumS 0 z100) = 242 := by
    unfold scheckV; rw [hr99]; dsimp only
    rw [if_neg (by simp), if_neg sums_apart]
  have C1 := Box.mk (fun q p bb cb w hf h => scheck_any q p bb cb (1 : Nat) (1 : Nat) s2 100 (sumS 0 z100) w hf o2 h in2 (by omega))
  have C2 := Box.mk (fun q p bb cb w hf h => scheck_any q p bb cb (1 : Nat) (1 : Nat) s2 99 (sumS 0 z100) w hf o2 h in2 (by omega))
  rw [hr100] at R1
  rw [hr513] at R2
  rw [hc1] at C1
  rw [hc2] at C2
  dsimp only at R1 R2
  have WR2 := Box.mk (fun g q p bb cb page w hf h hw hp => swrite_any g q p bb cb (1 : Nat) (1 : Nat) s2 WS.new page Y w hf o2 h in2 hw w0 hp (by omega))
  rw [show WS.new.write (1 : Nat) (1 : Nat) s2 Y.data.toList = (s2, { WS.new with e := 241 }, 241) from by
    unfold WS.write
    rw [if_neg (by simp [WS.new]), if_neg (by simp [WS.new]), if_pos (by rw [hYl]; simp [WS.new])]] at WR2
  dsimp only at WR2 EN2
  generalize sumS 0 z100 = T at ON C1 C2
  have S1 := Box.mk (fun p bb cb w hf => steps_any p bb cb s1 w hf)
  have S2 := Box.mk (fun p bb cb w hf => steps_any p bb cb s2 w hf)
  rw [e1'] at S1
  rw [e2'] at S2
  have hzz : (Z.toList == Z.toList) = true := by simp
  clear hZ hY hZl hYl hZs hYs e1 e1' e2 e2' l1 l2 hr100 hr99 hr513 hc1 hc2 ok0 st0 n0 hst in0 w0 o1 n1 w1 in1 o2 n2 w2 in2 nn2
  go_enter Try.func14, Try.ntmps14
  go_wp2_with fail
  refine (LD.out _).mono ?_
  rintro e W1 ⟨q, p, bb, cb, q', p', bb', cb', rfl, pd, ap, nq, lo, b1⟩
  have P1 := Box.mk (show Fl 76 W1 p bb cb s0 ∧ Pa W1 q p (1 : Nat) (1 : Nat) from ⟨pd.f, pd.pa⟩)
  have LO := Box.mk lo; have NQ := Box.mk nq; have B1 := Box.mk b1
  clear pd ap nq lo b1 LD
  go_wp2_with fail
  refine (begin_any q _).mono ?_
  rintro e W2 ⟨rfl, sw, b2⟩
  have Q2 := Box.mk (SlS.begin P1.out.1 P1.out.2 NQ.out LO.out B1.out.size sw b2)
  have B2 := Box.mk (belU B1.out (Upd.of_below (S := []) b2) (by simp))
  clear sw b2 P1 B1
  generalize W1.heap.size = g at Q2 ⊢
  go_wp2_with fail
  have hu := Upd.of_below (S := []) ((Below.refl W2.heap.size W2).alloc (Nat.le_refl _) (.cells (Array.replicate 100 (.int .u8 0)) 5))
  have Q3 := Box.mk (Q2.out.same hu); have B3 := Box.mk (belU B2.out hu (by simp))
  clear hu Q2 B2
  obtain ⟨pg, hpg⟩ := Q3.out.sw
  refine (WR.out g q p bb cb pg _ Q3.out.fl Q3.out.pa hpg Q3.out.sp).mono ?_
  rintro e W4 ⟨rfl, f4, s4, u4⟩
  have Q4 := Box.mk (Q3.out.next f4 s4 u4); have B4 := Box.mk (belU B3.out u4 Q3.out.mem)
  clear f4 s4 u4 Q3 B3 hpg WR
  go_wp2_with fail
  refine (S1.out p bb cb _ Q4.out.fl).mono ?_
  rintro e W5 ⟨rfl, rfl⟩
  go_wp2_with fail
  obtain ⟨pg4, hpg⟩ := Q4.out.sw
  refine (EN.out g q p bb cb pg4 _ Q4.out.fl Q4.out.pa hpg Q4.out.sp).mono ?_
  rintro e W6 ⟨rfl, f4, s4, u4⟩
  have Q6 := Box.mk (Q4.out.next f4 s4 u4); have B6 := Box.mk (belU B4.out u4 Q4.out.mem)
  clear f4 s4 u4 Q4 B4 hpg EN S1
  go_wp2_with fail
  refine (S2.out p bb cb _ Q6.out.fl).mono ?_
  rintro e W7 ⟨rfl, rfl⟩
  go_wp2_with fail
  obtain ⟨pg6, hpg⟩ := Q6.out.sw
  refine (EN2.out g q p bb cb pg6 _ Q6.out.fl Q6.out.pa hpg Q6.out.sp).mono ?_
  rintro e W8 ⟨rfl, f4, s4, u4⟩
  have Q8 := Box.mk (Q6.out.next f4 s4 u4); have B8 := Box.mk (belU B6.out u4 Q6.out.mem)
  clear f4 s4 u4 Q6 B6 hpg EN2 S2
  go_wp2_with fail
  refine (R1.out q p bb cb _ Q8.out.fl Q8.out.pa).mono ?_
  rintro e W9 ⟨rfl, rfl⟩
  go_wp2_with fail
  refine (ON.out _).mono ?_
  rintro e W9 ⟨rfl, b9⟩
  have Q9 := Box.mk (Q8.out.same (Upd.of_below b9)); have B9 := Box.mk (belU B8.out (Upd.of_below (S := []) b9) (by simp))
  clear b9 Q8 B8
  go_wp2_with fail
  refine (C1.out q p bb cb _ Q9.out.fl Q9.out.pa).mono ?_
  rintro e W10 ⟨rfl, b10⟩
  have Q10 := Box.mk (Q9.out.same (Upd.of_below b10)); have B10 := Box.mk (belU B9.out (Upd.of_below (S := []) b10) (by simp))
  clear b10 Q9 B9
  go_wp2_with fail
  refine (C2.out q p bb cb _ Q10.out.fl Q10.out.pa).mono ?_
  rintro e W11 ⟨rfl, b11⟩
  have Q11 := Box.mk (Q10.out.same (Upd.of_below b11)); have B11 := Box.mk (belU B10.out (Upd.of_below (S := []) b11) (by simp))
  clear b11 Q10 B10
  go_wp2_with fail
  refine (R2.out q p bb cb _ Q11.out.fl Q11.out.pa).mono ?_
  rintro e W12 ⟨rfl, rfl⟩
  go_wp2_with fail
  refine (begin_any q _).mono ?_
  rintro e W13 ⟨rfl, sw, b13⟩
  have G13 := Box.mk (Q11.out.same (Upd.of_below b13)); have LT := (Q11.out.sw.elim fun _ h => h.at_.lt)
  have Q13 := Box.mk (SlS.begin Q11.out.fl Q11.out.pa NQ.out LO.out B11.out.size sw b13)
  have B13 := Box.mk (belU B11.out (Upd.of_below (S := []) b13) (by simp))
  have NG : Box (g ≠ W11.heap.size) := ⟨by omega⟩
  clear sw b13 Q11 B11 LT
  generalize W11.heap.size = g2 at Q13 NG ⊢
  go_wp2_with fail
  have hu := Upd.of_below (S := []) ((Below.refl W13.heap.size W13).alloc (Nat.le_refl _) (.cells (Array.replicate 513 (.int .u8 0)) 5))
  have Q14 := Box.mk (Q13.out.same hu); have B14 := Box.mk (belU B13.out hu (by simp)); have G14 := Box.mk (G13.out.same hu)
  clear hu Q13 B13 G13
  obtain ⟨pg14, hpg⟩ := Q14.out.sw
  refine (WR2.out g2 q p bb cb pg14 _ Q14.out.fl Q14.out.pa hpg Q14.out.sp).mono ?_
  rintro e W15 ⟨rfl, f4, s4, u4⟩
  have B15 := Box.mk (belU B14.out u4 Q14.out.mem)
  have SW15 : Box (∃ pg, Swr W15 g q pg 100 true 0) := ⟨by
    obtain ⟨pg, h⟩ := G14.out.sw
    exact ⟨pg, (h.upd u4 (by
      have h2 := G14.out.sp.hg
      simp only [List.mem_cons, List.not_mem_nil, or_false, not_or] at h2 ⊢
      exact ⟨NG.out, h2⟩)).at_⟩⟩
  clear f4 s4 u4 Q14 B14 hpg WR2 G14
  go_wp2_with fail
  obtain ⟨pg15, hsw⟩ := SW15.out
  have hsw2 := Box.mk (hsw.upd (Upd.of_below (S := []) ((Below.refl W15.heap.size W15).alloc (Nat.le_refl _) (.cells (Array.replicate 100 (.int .u8 0)) 5))) (by simp))
  clear hsw
  refine (ssize_any g q pg15 100 true 0 _ hsw2.out).mono ?_
  rintro e W16 ⟨rfl, rfl⟩
  go_wp2_with fail
  go_ret
  exact ⟨rfl, B15.out.alloc B15.out.size _⟩
end Go.Proofs.Ytopiopomioglfaa
namespace Go.Proofs.Ytopiopomioglfaa
set_option maxRecDepth 100000
set_option linter.unusedVariables false
open Go Go.RowKit Sha

/-- All pieces came, no page failed. -/
structure CutR (F B : Nat) (s0 s : FS) (ws : WS) (all : List UInt8) : Prop where
  w : ws = ⟨all, 64 * (all.length / 64), all.length, false, 0⟩
  t : FS.wto F B all (all.length / 64) s0 0 = (s, 0, 64 * (all.length / 64))
  la : Laid s0 s F all (64 * (all.length / 64))
  le : all.length ≤ 512 * B
theorem CutR.start {s : FS} (h : s.Still) (hok : s.Ok) (F B : Nat) : CutR F B s s WS.new [] := ⟨rfl, rfl, Laid.start h hok F [], Nat.zero_le _⟩
theorem CutR.step {F B : Nat} {s0 s : FS} {ws : WS} {all : List UInt8} (h : CutR F B s0 s ws all) (hF : F + B ≤ s0.n.length) (l : List UInt8) (hl : all.length + l.length ≤ 512 * B) :
    (ws.write F B s l).2.2 = 0 ∧ CutR F B s0 (ws.write F B s l).1 (ws.write F B s l).2.1 (all ++ l) := by
  obtain ⟨rfl, t, la, le⟩ := h
  have hA : (all ++ l).length = all.length + l.length := List.length_append ..
  obtain ⟨A, hAe⟩ : ∃ A, A = all ++ l := ⟨_, rfl⟩
  obtain ⟨k, hk⟩ : ∃ k, k = (all ++ l).length / 64 - 64 * (all.length / 64) / 64 := ⟨_, rfl⟩
  have lm := la.more l (by omega)
  have hp := Laid.pages (B := B) hF (by rw [hA]; exact hl) k s (64 * (all.length / 64)) lm (by omega) (by omega)
  have e : (⟨all, 64 * (all.length / 64), all.length, false, 0⟩ : WS).write F B s l = ((FS.wto F B (all ++ l) k s (64 * (all.length / 64))).1, ⟨all ++ l, (FS.wto F B (all ++ l) k s (64 * (all.length / 64))).2.2, if (FS.wto F B (all ++ l) k s (64 * (all.length / 64))).2.1 = 0 then (all ++ l).length else all.length, false, (FS.wto F B (all ++ l) k s (64 * (all.length / 64))).2.1⟩, (FS.wto F B (all ++ l) k s (64 * (all.length / 64))).2.1) := by
    unfold WS.write
    rw [if_neg (by simp), if_neg (by simp), if_neg (by dsimp only; omega)]
    dsimp only
    rw [← hk]
  rw [e]
  have hm : 64 * (all.length / 64) + 64 * k = 64 * ((all ++ l).length / 64) := by omega
  rw [hm] at hp
  have ht : FS.wto F B (all ++ l) ((all ++ l).length / 64) s0 0 = ((FS.wto F B (all ++ l) k s (64 * (all.length / 64))).1, 0, 64 * ((all ++ l).length / 64)) := by
    rw [show (all ++ l).length / 64 = all.length / 64 + k by omega, FS.wto_add, FS.wto_more F B all l (all.length / 64) s0 0 (by omega), t, if_neg (by simp)]
    dsimp only
    rw [show 64 * (all.length / 64 + k) = 64 * ((all ++ l).length / 64) by omega, ← hp.2.1]
    conv => lhs; rw [show (FS.wto F B (all ++ l) k s (64 * (all.length / 64))) = ((FS.wto F B (all ++ l) k s (64 * (all.length / 64))).1, (FS.wto F B (all ++ l) k s (64 * (all.length / 64))).2.1, (FS.wto F B (all ++ l) k s (64 * (all.length / 64))).2.2) from rfl, hp.1]
  refine ⟨hp.1, ?_, ht, hp.2.2, by rw [hA]; exact hl⟩
  dsimp only
  rw [hp.1, hp.2.1, if_pos rfl]
/-- At once the same. -/
theorem CutR.once {F B : Nat} {s0 s : FS} {ws : WS} {all : List UInt8} (h : CutR F B s0 s ws all) (hs : s0.Still) (hok : s0.Ok) (hF : F + B ≤ s0.n.length) : WS.new.write F B s0 all = (s, ws, 0) := by
  obtain ⟨h1, h2⟩ := (CutR.start hs hok F B).step hF all (by simp; exact h.le)
  rw [List.nil_append] at h2
  have hw := h2.w.trans h.w.symm
  have ht := h2.t.symm.trans h.t
  have hs := congrArg Prod.fst ht
  dsimp only at hs
  generalize WS.new.write F B s0 all = r at h1 hw hs
  obtain ⟨r1, r2, r3⟩ := r
  dsimp only at h1 hw hs
  rw [h1, hw, hs]
/-- The end. -/
structure EndR (F B : Nat) (s0 s : FS) (all : List UInt8) : Prop where
  la : Laid s0 s F all all.length
  le : all.length ≤ 512 * B
theorem CutR.fin {F B : Nat} {s0 s : FS} {ws : WS} {all : List UInt8} (h : CutR F B s0 s ws all) (hF : F + B ≤ s0.n.length) : (ws.fin F B s).2.2 = 0 ∧ EndR F B s0 (ws.fin F B s).1 all := by
  obtain ⟨rfl, t, la, le⟩ := h
  by_cases hg : all.length > 64 * (all.length / 64)
  · have hll : (all.drop (64 * (all.length / 64))).length = all.length - 64 * (all.length / 64) := List.length_drop ..
    obtain ⟨p1, p2⟩ := la.page B hF (by omega) (all.drop (64 * (all.length / 64))) (by omega) (by omega) (by omega) (fun j hj => by rw [List.getElem?_drop])
    rw [hll, show 64 * (all.length / 64) + (all.length - 64 * (all.length / 64)) = all.length by omega] at p2
    unfold WS.fin
    rw [if_neg (by simp), if_neg (by simp), if_pos hg]
    exact ⟨p1, p2, le⟩
  · unfold WS.fin
    rw [if_neg (by simp), if_neg (by simp), if_neg hg]
    refine ⟨rfl, ?_, le⟩
    dsimp only
    rw [show 64 * (all.length / 64) = all.length by omega] at la
    exact la
end Go.Proofs.Ytopiopomioglfaa
namespace Go.Proofs.Ytopiopomioglfaa
set_option maxRecDepth 100000
set_option linter.unusedVariables false
open Go Go.RowKit Sha

theorem CutR.full {F B : Nat} {s0 s : FS} {ws : WS} {all : List UInt8} (h : CutR F B s0 s ws all) (l : List UInt8) (hl : 512 * B < all.length + l.length) : ws.write F B s l = (s, { ws with e := 241 }, 241) := by
  obtain ⟨rfl, t, la, le⟩ := h
  unfold WS.write
  rw [if_neg (by simp), if_neg (by simp), if_pos (by dsimp only; omega)]
theorem CutR.wok {F B : Nat} {s0 s : FS} {ws : WS} {all : List UInt8} (h : CutR F B s0 s ws all) : ws.Ok (B : Nat) ∧ ({ ws with e := 241 } : WS).Ok (B : Nat) := by
  obtain ⟨rfl, t, la, le⟩ := h
  exact ⟨⟨by dsimp only; omega, by dsimp only; omega, by dsimp only; omega, fun _ => ⟨rfl, fun _ => rfl⟩⟩, ⟨by dsimp only; omega, by dsimp only; omega, by dsimp only; omega, fun h => by simp at h⟩⟩
/-- What is left of the flash outside of the first n bytes of a part. -/
structure Outs (F n : Nat) (s0 s : FS) : Prop where
  len : s.b.length = s0.b.length
  lo : ∀ k, k < 512 * F → s.b[k]? = s0.b[k]?
  hi : ∀ k, 512 * F + 512 * ((n + 511) / 512) ≤ k → s.b[k]? = s0.b[k]?
theorem Laid.outs {s0 s : FS} {F m n : Nat} {all : List UInt8} (h : Laid s0 s F all m) (hm : m ≤ n) : Outs F n s0 s := ⟨h.len, h.lo, fun k hk => h.hi k (by omega)⟩
theorem CutR.outs {F B : Nat} {s0 s : FS} {ws wx : WS} {all : List UInt8} (h : CutR F B s0 s ws all) (hF : F + B ≤ s0.n.length) (hx : wx = ws ∨ wx = { ws with e := 241 }) : Outs F all.length s0 (wx.fin F B s).1 := by
  rcases hx with rfl | rfl
  · exact (h.fin hF).2.la.outs (Nat.le_refl _)
  · unfold WS.fin
    rw [if_pos (by simp)]
    exact h.la.outs (by omega)
theorem bext {l1 l2 : List UInt8} {a b : Nat} (h : ∀ k, a ≤ k → k < b → l1[k]? = l2[k]?) : (⟨l1.toArray⟩ : ByteArray).extract a b = (⟨l2.toArray⟩ : ByteArray).extract a b := by
  apply ByteArray.ext
  rw [ByteArray.data_extract, ByteArray.data_extract]
  apply Array.toList_inj.1
  rw [Array.toList_extract, Array.toList_extract, List.extract_eq_take_drop, List.extract_eq_take_drop]
  apply List.ext_getElem?
  intro i
  rw [List.getElem?_take, List.getElem?_take, List.getElem?_drop, List.getElem?_drop]
  by_cases hi : i < b - a
  · rw [if_pos hi, if_pos hi]; exact h _ (by omega) (by omega)
  · rw [if_neg hi, if_neg hi]
end Go.Proofs.Ytopiopomioglfaa
