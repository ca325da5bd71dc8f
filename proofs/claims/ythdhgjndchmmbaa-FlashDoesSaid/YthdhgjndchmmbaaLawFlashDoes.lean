/- FlashDoes. No condition. -/
import Derived.Test.YthdhgjndchmmbaaFlashRefD
import Derived.Test.YthdhgjndchmmbaaScript
import Derived.Deep.DeepCutAuto
import Derived.Deep.CutBlock
import Derived.IntWalk
namespace Go.Proofs.Ythdhgjndchmmbaa.flashDoes
open Go Go.RowKit Go.ChangeShapes Go.WideShapes Go.ChangeAt
open Go.ChangeMaps (open_string shut_string)
set_option linter.unusedVariables false

theorem agg2 {cs : Array Value} {a b : Value} (h : cs.size = 2) (h0 : cs[0]? = some a) (h1 : cs[1]? = some b) : cs = #[a, b] := by
  obtain ⟨l⟩ := cs
  match l, h with
  | [x0, x1], _ => simp at h0 h1; simp_all
theorem open_w {H : Type} {enc : TypeId × Value → H} {w : World} {base : Nat} {spare : Nat → Bool} {held : Bool} {v : Value} {d : DataW H} {p : List MemPlace}
    (hv : Value.okWide Try.prog w .any base 54 v) (h : DataW.Trod enc Try.prog w 0 spare held 54 v d p) :
    ∃ im sl l, v = .agg #[.string im, sl] ∧ im.size ≤ maxLen ∧ Script w sl l := by
  obtain ⟨cs, rfl, hsz, hf⟩ := read_struct Try.underlying54 (by kernel_rfl) (by kernel_rfl) hv h
  obtain ⟨c0, e0, r0⟩ := hf 0 _ rfl
  obtain ⟨c1, e1, r1⟩ := hf 1 _ rfl
  obtain ⟨im, rfl, wim⟩ := r0.string Try.underlying9
  obtain ⟨l, hl⟩ := Script.of_reads Try.underlying52 Try.underlying40 (by kernel_rfl) (by kernel_rfl) rfl rfl rfl rfl rfl Try.underlying3 Try.underlying9 Try.underlying5 r1
  exact ⟨im, c1, l, by rw [agg2 hsz e0 e1], wim, hl⟩

/-- The cells of the argument's block, the part of the call's own. -/
structure Arg (w wr : World) (im : ByteArray) (sl : Value) : Prop where
  g : wr.heap[w.heap.size]? = some (.cells #[.string im, sl] 54 (0, 0))
  b : Below w.heap.size w wr
theorem Arg.cells {w wr : World} {im : ByteArray} {sl : Value} (h : Arg w wr im sl) : wr.cell? ⟨w.heap.size, 0, none⟩ = some (.string im) ∧ wr.cell? ⟨w.heap.size, 1, none⟩ = some sl := by
  constructor <;> (rw [cell_of_row _ _ _ _ _ _ h.g]; rfl)
theorem Arg.upd {w wr w' : World} {im : ByteArray} {sl : Value} (h : Arg w wr im sl) {S : List Nat} (hu : Upd S wr w') (hS : ∀ i, i ∈ S → w.heap.size < i) : Arg w w' im sl := by
  have hl := (Array.getElem?_eq_some_iff.1 h.g).1
  exact ⟨(hu.block _ hl (fun hm => by have := hS _ hm; omega)).trans h.g, Upd.below h.b hu (fun i hi => by have := hS i hi; omega) h.b.size⟩

/-- The flash and the document's, in the same state. -/
structure Pair (w wr : World) (im : ByteArray) (sl : Value) (p bb cb p' bb' cb' : Nat) (s s' : FS) : Prop where
  f : Fl 63 wr p bb cb s
  m : Fl 37 wr p' bb' cb' s'
  arg : Arg w wr im sl
  l1 : w.heap.size < p ∧ w.heap.size < bb ∧ w.heap.size < cb
  l2 : w.heap.size < p' ∧ w.heap.size < bb' ∧ w.heap.size < cb'
  d : p ∉ [p', bb', cb'] ∧ bb ∉ [p', bb', cb'] ∧ cb ∉ [p', bb', cb']
theorem Pair.d' {w wr : World} {im : ByteArray} {sl : Value} {p bb cb p' bb' cb' : Nat} {s s' : FS} (h : Pair w wr im sl p bb cb p' bb' cb' s s') :
    p' ∉ [p, bb, cb] ∧ bb' ∉ [p, bb, cb] ∧ cb' ∉ [p, bb, cb] := by
  obtain ⟨h1, h2, h3⟩ := h.d
  simp only [List.mem_cons, List.not_mem_nil, or_false, not_or] at h1 h2 h3 ⊢
  omega
/-- A call on the flash. -/
theorem Pair.one {w wr w1 : World} {im : ByteArray} {sl : Value} {p bb cb p' bb' cb' : Nat} {s s' s1 : FS} (h : Pair w wr im sl p bb cb p' bb' cb' s s') (hf : Fl 63 w1 p bb cb s1) (hu : Upd [p, bb, cb] wr w1) :
    Pair w w1 im sl p bb cb p' bb' cb' s1 s' :=
  ⟨hf, h.m.upd hu h.d'.1 h.d'.2.1 h.d'.2.2, h.arg.upd hu (by have := h.l1; simp; omega), h.l1, h.l2, h.d⟩
/-- A call on the document's. -/
theorem Pair.two {w wr w1 : World} {im : ByteArray} {sl : Value} {p bb cb p' bb' cb' : Nat} {s s' s1 : FS} (h : Pair w wr im sl p bb cb p' bb' cb' s s') (hf : Fl 37 w1 p' bb' cb' s1) (hu : Upd [p', bb', cb'] wr w1) :
    Pair w w1 im sl p bb cb p' bb' cb' s s1 :=
  ⟨h.f.upd hu h.d.1 h.d.2.1 h.d.2.2, hf, h.arg.upd hu (by have := h.l2; simp; omega), h.l1, h.l2, h.d⟩
theorem Pair.same {w wr w1 : World} {im : ByteArray} {sl : Value} {p bb cb p' bb' cb' : Nat} {s s' : FS} (h : Pair w wr im sl p bb cb p' bb' cb' s s') (hu : Upd [] wr w1) :
    Pair w w1 im sl p bb cb p' bb' cb' s s' :=
  ⟨h.f.upd hu (by simp) (by simp) (by simp), h.m.upd hu (by simp) (by simp) (by simp), h.arg.upd hu (by simp), h.l1, h.l2, h.d⟩
def ob (o : OpR) : Obj := .cells #[.int .i64 o.k, .int .i64 o.a, .int .i64 o.n, .string o.s, .int .u8 (o.m.toNat : Int)] 40
theorem ob_cells {w : World} {k : Nat} {o : OpR} (h : w.heap[k]? = some (ob o)) : w.cell? ⟨k, 0, none⟩ = some (.int .i64 o.k) ∧ w.cell? ⟨k, 1, none⟩ = some (.int .i64 o.a) ∧ w.cell? ⟨k, 2, none⟩ = some (.int .i64 o.n) ∧ w.cell? ⟨k, 3, none⟩ = some (.string o.s) ∧ w.cell? ⟨k, 4, none⟩ = some (.int .u8 (o.m.toNat : Int)) := by
  unfold ob at h
  refine ⟨?_, ?_, ?_, ?_, ?_⟩ <;> (rw [cell_of_row _ _ _ _ _ _ h]; rfl)
/-- What a call of the script leaves. -/
def Aft (w : World) (im : ByteArray) (sl : Value) (p' bb' cb' K : Nat) (o : OpR) (f a b x y : Value) (wx : World) : Prop :=
  ∃ (p bb cb : Nat) (s : FS) (e : Int) (t : ByteArray), f = .pointer (some ⟨p, 0, none⟩) ∧ a = .int .i64 e ∧ b = .int .i64 e ∧ x = .string t ∧ y = .string t ∧ s.Ok ∧ Pair w wx im sl p bb cb p' bb' cb' s s ∧ wx.heap[K]? = some (ob o) ∧ K ∉ [p, bb, cb] ∧ K ∉ [p', bb', cb']
theorem read_form (s : FS) (at_ n : Int) : ∃ (t : ByteArray) (x : Int), (if s.dead then Value.tuple #[.string ⟨#[]⟩, .int .i64 2] else if onB s.b.length at_ n then .tuple #[.string ⟨((s.b.drop at_.toNat).take n.toNat).toArray⟩, .int .i64 0] else .tuple #[.string ⟨#[]⟩, .int .i64 111]) = .tuple #[.string t, .int .i64 x] := by
  split
  · exact ⟨_, _, rfl⟩
  · split
    · exact ⟨_, _, rfl⟩
    · exact ⟨_, _, rfl⟩
theorem crash_ok {s : FS} (h : s.Ok) : (if s.dead then s else s.off).Ok := by
  split
  · exact h
  · exact ⟨by simp [FS.off], h.keep, h.len, h.few⟩
theorem quiet_calls {P : Program} {f : FuncId} {args : Array Value} {w : World} {n : Nat} {v : Value}
    (h : Calls P f args (w.drewN n) fun e w' => e = .returned v ∧ w.drewN n = w') : Calls P f args (w.drewN n) fun e w'' => e = .returned v ∧ ∃ m, w'' = w.drewN m :=
  h.mono fun _ _ ⟨he, hm⟩ => ⟨he, n, hm.symm⟩
theorem back_ok {s : FS} (h : s.Ok) : s.back.Ok := ⟨by simp [FS.back], h.keep, h.len, h.few⟩
theorem keep_ob {w w1 : World} {K : Nat} {o : OpR} {S : List Nat} (h : w.heap[K]? = some (ob o)) (hu : Upd S w w1) (hK : K ∉ S) : w1.heap[K]? = some (ob o) :=
  (hu.block _ (Array.getElem?_eq_some_iff.1 h).1 hK).trans h

set_option maxRecDepth 100000 in
set_option maxHeartbeats 8000000 in
theorem walk (im : ByteArray) (sl : Value) (l : List OpR) (wi : im.size ≤ maxLen) (w : World) (hsc : Script w sl l) :
    Calls Try.prog 8 #[.agg #[.string im, sl]] w fun e w' => e = .returned (.bool true) ∧ Below w.heap.size w w' := by
  obtain ⟨r, hr, hrl, HFIT⟩ := fit_any im wi
  clear wi
  have HFIT := Box.mk HFIT; have HR := Box.mk hr; clear hr
  go_enter Try.func8, Try.ntmps8
  go_wp2_with fail
  refine (HFIT.out _).mono ?_
  rintro e w1 ⟨rfl, hb1⟩
  have hz1 := hb1.size
  simp only [World.size_alloc] at hz1
  have g1 : Arg w w1 im sl := ⟨by rw [hb1.block _ (by simp)]; exact heap_alloc_new _ _, ((Below.refl _ _).alloc (Nat.le_refl _) _).trans (hb1.mono (by simp))⟩
  have A1 := Box.mk g1
  clear hb1 g1
  go_wp2_with fail
  refine (open_yes r _ HR.out).mono ?_
  rintro e w2 ⟨p, bb, cb, rfl, hf, hp, hbb, hcb, hb2⟩
  have F0 := Box.mk hf
  have A2 := Box.mk (A1.out.upd (Upd.of_below (S := []) hb2) (by simp))
  clear hf hb2 A1
  obtain ⟨c0, c1⟩ := A2.out.cells
  go_wp2_with fail
  refine (HFIT.out _).mono ?_
  rintro e w3 ⟨rfl, hb3⟩
  clear c0 c1
  have F1 := Box.mk (F0.out.upd (S := []) (Upd.of_below hb3) (by simp) (by simp) (by simp))
  have A3 := Box.mk (A2.out.upd (Upd.of_below (S := []) hb3) (by simp))
  have lt := F1.out.lt
  clear hb3 A2 F0
  go_wp2_with fail
  refine (ropen_yes r _ HR.out).mono ?_
  rintro e w4 ⟨p', bb', cb', rfl, hf, hp', hbb', hcb', hb4⟩
  have PR : Pair w w4 im sl p bb cb p' bb' cb' (FS.new r.data.toList) (FS.new r.data.toList) :=
    ⟨F1.out.upd (S := []) (Upd.of_below hb4) (by simp) (by simp) (by simp), hf, A3.out.upd (Upd.of_below (S := []) hb4) (by simp), by omega, by omega, by simp; omega⟩
  have ok0 : (FS.new r.data.toList).Ok := FS.new_ok (by rw [Array.length_toList]; exact HR.out)
  have OK0 := Box.mk ok0
  have PR := Box.mk PR
  have hl2 := PR.out.l2
  clear hf hb4 A3 F1 ok0 lt hp hbb hcb hp' hbb' hcb' hz1
  obtain ⟨ao, cap, rfl, hmax, hops⟩ := hsc
  have hlen : l.length ≤ 9223372036854775807 := by unfold maxLen at hmax; omega
  have hops := Box.mk hops
  go_wp2_with fail
  go_loopw [3, 7] (fun f i wr => ∃ (j : Nat) (p bb cb : Nat) (s : FS), j ≤ l.length ∧ f = .pointer (some ⟨p, 0, none⟩) ∧ i = .int .i64 j ∧ s.Ok ∧ Pair w wr im (.slice ao l.length cap) p bb cb p' bb' cb' s s) (fun _ i _ => l.length - (intOf i).toNat)
  case atStart => exact ⟨0, p, bb, cb, _, by omega, rfl, rfl, OK0.out, PR.out⟩
  case round =>
    clear PR OK0
    obtain ⟨j, p, bb, cb, s, hj, rfl, rfl, ok, hpr⟩ := hrel
    obtain ⟨c0, c1⟩ := hpr.arg.cells
    by_cases hlt : j < l.length
    · obtain ⟨o, ho⟩ : ∃ o, l[j]? = some o := ⟨_, List.getElem?_eq_getElem hlt⟩
      have hltI : (j : Int) < (l.length : Int) := by omega
      obtain ⟨a, rfl, HO⟩ := hops.out j o ho
      have hox : OpAt wr (a.add (j * 5)) o := HO.below hpr.arg.b HO.lt
      obtain ⟨q0, q1, q2, q3, q4⟩ := hox.flat
      obtain ⟨K, hK⟩ : ∃ K, K = wr.heap.size := ⟨_, rfl⟩
      have PR : Box (Pair w (wr.alloc (ob o)) im (.slice (some a) l.length cap) p bb cb p' bb' cb' s s) := ⟨hpr.same ((Upd.refl [] wr).alloc _)⟩
      have OB : Box ((wr.alloc (ob o)).heap[wr.heap.size]? = some (ob o)) := ⟨heap_alloc_new _ _⟩
      have KN : Box (wr.heap.size ∉ [p, bb, cb] ∧ wr.heap.size ∉ [p', bb', cb']) := ⟨by have h1 := hpr.f.lt; have h2 := hpr.m.lt; simp; omega⟩
      have OX := Box.mk HO.ok; have OK := Box.mk ok
      clear hox HO ok hpr c0
      go_upto_block 2 with (fail)
      go_cut [3, 9, 10, 11, 12] (fun f e1 e2 x y wx => Aft w im (.slice (some a) l.length cap) p' bb' cb' wr.heap.size o f e1 e2 x y wx)
      case first =>
        go_wp2_with fail
        · obtain ⟨t, x, htx⟩ := read_form s o.a o.n
          have R1 := read_any p bb cb s o.a o.n _ PR.out.f OK.out OX.out.a OX.out.n
          have R2 := fun w h => rread_any p' bb' cb' s o.a o.n w h OK.out OX.out.a OX.out.n
          rw [htx] at R1
          simp only [htx] at R2
          have R2 := Box.mk R2
          clear htx
          refine R1.mono ?_
          rintro e w5 ⟨rfl, rfl⟩
          obtain ⟨z0, z1, z2, z3, z4⟩ := ob_cells OB.out
          go_wp2_with fail
          refine (R2.out _ PR.out.m).mono ?_
          rintro e w6 ⟨rfl, rfl⟩
          go_wp2_with fail
          go_meet
          exact ⟨p, bb, cb, s, x, t, rfl, rfl, rfl, rfl, rfl, OK.out, PR.out, OB.out, KN.out.1, KN.out.2⟩
        · refine (program_any p bb cb s o.a o.s _ PR.out.f OK.out OX.out.a OX.out.s).mono ?_
          rintro e w5 ⟨rfl, hf, hu⟩
          have PR5 := Box.mk (PR.out.one hf (hu.mono (by simp)))
          have OB5 := Box.mk (keep_ob OB.out (hu.mono (T := [p, bb, cb]) (by simp)) KN.out.1)
          obtain ⟨z0, z1, z2, z3, z4⟩ := ob_cells OB5.out
          clear hf hu
          go_wp2_with fail
          refine (rprogram_any p' bb' cb' s o.a o.s _ PR5.out.m OK.out OX.out.a OX.out.s).mono ?_
          rintro e w6 ⟨rfl, hf, hu⟩
          have PR6 := Box.mk (PR5.out.two hf (hu.mono (by simp)))
          have OB6 := Box.mk (keep_ob OB5.out (hu.mono (T := [p', bb', cb']) (by simp)) KN.out.2)
          clear hf hu z0 z1 z2 z3 z4
          go_wp2_with fail
          go_meet
          exact ⟨p, bb, cb, _, _, ⟨#[]⟩, rfl, rfl, rfl, rfl, rfl, FS.program_ok OK.out _ _, PR6.out, OB6.out, KN.out.1, KN.out.2⟩
        · refine (erase_any p bb cb s o.a _ PR.out.f OK.out).mono ?_
          rintro e w5 ⟨rfl, hf, hu⟩
          have PR5 := Box.mk (PR.out.one hf (hu.mono (by simp)))
          have OB5 := Box.mk (keep_ob OB.out (hu.mono (T := [p, bb, cb]) (by simp)) KN.out.1)
          obtain ⟨z0, z1, z2, z3, z4⟩ := ob_cells OB5.out
          clear hf hu
          go_wp2_with fail
          refine (rerase_any p' bb' cb' s o.a _ PR5.out.m OK.out).mono ?_
          rintro e w6 ⟨rfl, hf, hu⟩
          have PR6 := Box.mk (PR5.out.two hf (hu.mono (by simp)))
          have OB6 := Box.mk (keep_ob OB5.out (hu.mono (T := [p', bb', cb']) (by simp)) KN.out.2)
          clear hf hu z0 z1 z2 z3 z4
          go_wp2_with fail
          go_meet
          exact ⟨p, bb, cb, _, _, ⟨#[]⟩, rfl, rfl, rfl, rfl, rfl, FS.erase_ok OK.out _, PR6.out, OB6.out, KN.out.1, KN.out.2⟩
        · refine (arm_any p bb cb s o.n o.a o.m _ PR.out.f OX.out.a).mono ?_
          rintro e w5 ⟨rfl, hf, hu⟩
          have PR5 := Box.mk (PR.out.one hf (hu.mono (by simp)))
          have OB5 := Box.mk (keep_ob OB.out (hu.mono (T := [p, bb, cb]) (by simp)) KN.out.1)
          obtain ⟨z0, z1, z2, z3, z4⟩ := ob_cells OB5.out
          clear hf hu
          go_wp2_with fail
          refine (rarm_any p' bb' cb' s o.n o.a o.m _ PR5.out.m OX.out.a).mono ?_
          rintro e w6 ⟨rfl, hf, hu⟩
          have PR6 := Box.mk (PR5.out.two hf (hu.mono (by simp)))
          have OB6 := Box.mk (keep_ob OB5.out (hu.mono (T := [p', bb', cb']) (by simp)) KN.out.2)
          clear hf hu z0 z1 z2 z3 z4
          go_wp2_with fail
          go_meet
          exact ⟨p, bb, cb, _, _, ⟨#[]⟩, rfl, rfl, rfl, rfl, rfl, FS.arm_ok OK.out _ _ _ OX.out.n.2 OX.out.a.2, PR6.out, OB6.out, KN.out.1, KN.out.2⟩
        · refine (crash_any p bb cb s _ PR.out.f).mono ?_
          rintro e w5 ⟨rfl, hf, hu⟩
          have PR5 := Box.mk (PR.out.one hf (hu.mono (by simp)))
          have OB5 := Box.mk (keep_ob OB.out (hu.mono (T := [p, bb, cb]) (by simp)) KN.out.1)
          obtain ⟨z0, z1, z2, z3, z4⟩ := ob_cells OB5.out
          clear hf hu
          go_wp2_with fail
          refine (rcrash_any p' bb' cb' s _ PR5.out.m).mono ?_
          rintro e w6 ⟨rfl, hf, hu⟩
          have PR6 := Box.mk (PR5.out.two hf (hu.mono (by simp)))
          have OB6 := Box.mk (keep_ob OB5.out (hu.mono (T := [p', bb', cb']) (by simp)) KN.out.2)
          clear hf hu z0 z1 z2 z3 z4
          go_wp2_with fail
          go_meet
          exact ⟨p, bb, cb, _, _, ⟨#[]⟩, rfl, rfl, rfl, rfl, rfl, crash_ok OK.out, PR6.out, OB6.out, KN.out.1, KN.out.2⟩
        · refine (revive_any p bb cb s _ PR.out.f).mono ?_
          rintro e w5 ⟨rfl, hf, hu⟩
          have PR5 := Box.mk (PR.out.one hf (hu.mono (by simp)))
          have OB5 := Box.mk (keep_ob OB.out (hu.mono (T := [p, bb, cb]) (by simp)) KN.out.1)
          obtain ⟨z0, z1, z2, z3, z4⟩ := ob_cells OB5.out
          clear hf hu
          go_wp2_with fail
          refine (rrevive_any p' bb' cb' s _ PR5.out.m).mono ?_
          rintro e w6 ⟨rfl, hf, hu⟩
          have PR6 := Box.mk (PR5.out.two hf (hu.mono (by simp)))
          have OB6 := Box.mk (keep_ob OB5.out (hu.mono (T := [p', bb', cb']) (by simp)) KN.out.2)
          clear hf hu z0 z1 z2 z3 z4
          go_wp2_with fail
          go_meet
          exact ⟨p, bb, cb, _, 0, ⟨#[]⟩, rfl, rfl, rfl, rfl, rfl, back_ok OK.out, PR6.out, OB6.out, KN.out.1, KN.out.2⟩
        · refine (clone_any p bb cb s _ PR.out.f OK.out).mono ?_
          rintro e w5 ⟨p2, bb2, cb2, rfl, hf, hp2, hbb2, hcb2, hb⟩
          have hlt1 := PR.out.f.lt
          have hlt2 := PR.out.m.lt
          have hw := PR.out.arg.b.size
          have OB5 := Box.mk (keep_ob OB.out (Upd.of_below (S := []) hb) (by simp))
          have PO := Box.mk (PR.out.same (Upd.of_below hb))
          have hz := (Array.getElem?_eq_some_iff.1 OB.out).1
          have PN : Box (Pair w w5 im (.slice (some a) l.length cap) p2 bb2 cb2 p' bb' cb' s s) := ⟨hf, PO.out.m, PO.out.arg, by have := PR.out.l1; omega, PO.out.l2, by simp; omega⟩
          have DJ : Box (p2 ∉ [p, bb, cb] ∧ bb2 ∉ [p, bb, cb] ∧ cb2 ∉ [p, bb, cb]) := ⟨by simp; omega⟩
          have KN2 : Box (wr.heap.size ∉ [p2, bb2, cb2]) := ⟨by simp; omega⟩
          clear hf hb hp2 hbb2 hcb2 hlt1 hlt2 hw hz
          go_wp2_with fail
          refine (program_any p bb cb s 0 ⟨#[0]⟩ _ PO.out.f OK.out (by decide) (by decide)).mono ?_
          rintro e w6 ⟨rfl, hf, hu⟩
          have ok1 := Box.mk (FS.program_ok OK.out 0 (⟨#[0]⟩ : ByteArray).data.toList)
          have F6 := Box.mk hf
          have U6 := Box.mk (hu.mono (T := [p, bb, cb]) (by simp))
          clear hf hu
          go_wp2_with fail
          refine (erase_any p bb cb _ 0 _ F6.out ok1.out).mono ?_
          rintro e w7 ⟨rfl, hf, hu⟩
          have F7 := Box.mk hf
          have U7 := Box.mk (U6.out.trans hu)
          clear hf hu
          go_wp2_with fail
          refine (crash_any p bb cb _ _ F7.out).mono ?_
          rintro e w8 ⟨rfl, hf, hu⟩
          have U8 := Box.mk (U7.out.trans (hu.mono (T := [p, bb, cb]) (by simp)))
          clear hf hu
          go_wp2_with fail
          go_meet
          exact ⟨p2, bb2, cb2, s, 0, ⟨#[]⟩, rfl, rfl, rfl, rfl, rfl, OK.out, ⟨PN.out.f.upd U8.out DJ.out.1 DJ.out.2.1 DJ.out.2.2, PN.out.m.upd U8.out PO.out.d'.1 PO.out.d'.2.1 PO.out.d'.2.2, PN.out.arg.upd U8.out (by have := PR.out.l1; simp; omega), PN.out.l1, PN.out.l2, PN.out.d⟩, keep_ob OB5.out U8.out KN.out.1, KN2.out, KN.out.2⟩
        · go_meet
          exact ⟨p, bb, cb, s, 0, ⟨#[]⟩, rfl, rfl, rfl, rfl, rfl, OK.out, PR.out, OB.out, KN.out.1, KN.out.2⟩
      case rest =>
        obtain ⟨p2, bb2, cb2, s2, e, t, rfl, rfl, rfl, rfl, rfl, ok2, hpr, hob, hk1, hk2⟩ := hcut
        clear q0 q1 q2 q3 q4 PR OB KN OX OK c1
        obtain ⟨z0, z1, z2, z3, z4⟩ := ob_cells hob
        obtain ⟨bcap, ccap, hb, hc, d0, d1, d2, d3, d4, d5, d6⟩ := hpr.m.cells
        have hcv := fun n => run_bytes_at Try.prog (wc.drewN n) bb' 0 bcap s2.b 26 9 5 _ rfl Try.underlying26 Try.underlying5 Try.underlying9 (fun j u hu => by rw [Nat.zero_add]; exact (hpr.m.byte j u hu).1)
        clear z0 z2 z3 z4 d1 d3 d4 d5 hb hc
        have PN := Box.mk (fun n : Nat => hpr.same ((Upd.refl [] wc).drewN n))
        have PR := Box.mk hpr; have OK := Box.mk ok2; clear hpr ok2 hob hk1 hk2
        go_wp2_with fail
        go_quiet (first
          | (go_at_call 17; exact quiet_calls (image_any p2 bb2 cb2 s2 _ (PN.out _).f))
          | (go_at_call 16; exact quiet_calls (dead_any p2 bb2 cb2 s2 _ (PN.out _).f))
          | (go_at_call 15; exact quiet_calls (steps_any p2 bb2 cb2 s2 _ (PN.out _).f))
          | (go_at_call 21; exact quiet_calls (count_any p2 bb2 cb2 s2 o.a _ (PN.out _).f OK.out))
          | (go_at_call 33; exact quiet_calls (rcount_any p' bb' cb' s2 o.a _ (PN.out _).m OK.out)))
        go_wp2
        exact ⟨⟨j + 1, p2, bb2, cb2, s2, by omega, rfl, by go_num, OK.out, PN.out _⟩, by simp [intOf]; omega⟩
    · obtain rfl : j = l.length := by omega
      have PR := Box.mk hpr; clear hpr ok
      go_wp2_with fail
      refine (fixed_any _).mono ?_
      rintro e w8 ⟨rfl, hb⟩
      go_wp2
      go_ret
      exact ⟨rfl, (PR.out.arg.upd (Upd.of_below (S := []) hb) (by simp)).b⟩
theorem own : ownKnob Try.prog.godebug = none := by kernel_rfl
theorem laidOut : laidOutB Try.prog = true := by kernel_rfl
set_option maxRecDepth 100000 in
theorem lifted (os : Os) (started : os.Started) (H : Type) (enc : TypeId × Value → H) :
    ReturnsInHanded {} Try.checked os 8 .any (Rows.flashDoesSpec.pre6 enc Try.prog Try.f8 Rows.flashDoesRow.domain false) (Rows.flashDoesSpec.post enc Try.prog Try.f8 false true false false) := by
  refine returnsInHanded_of_change (C := Try.checked) own started (by kernel_rfl) Try.func8
    (ChangeSpec.witness6 (enc := enc) (C := Try.checked) false ⟨#[], #[.agg #[.string ⟨#[]⟩, .slice none 0 0]], []⟩ 8 (by kernel_rfl) (by kernel_rfl) (by kernel_rfl) (by kernel_rfl)) ?_
  intro W base args ds gs before hval0 hW hcnd _
  have hval : ∀ (j : Nat) t v, Try.f8.params[j]? = some t → args[j]? = some v → Value.okWide Try.prog W .any base t v := hval0
  have hW' := hW
  obtain ⟨p, q, hA0, hV, rfl, hfz, hnd⟩ := hW
  have hA : DataW.TrodAll enc Try.prog W 0 (fun _ => true) true Try.f8.params.toList args.toList ds p := hA0
  rw [Try.params8] at hA hval
  obtain ⟨v0, vs0, d0, ds0, p0, q0, hargs, rfl, rfl, h0, r0⟩ := trodAll_cons hA
  obtain ⟨rfl, rfl, rfl⟩ := trodAll_nil r0
  obtain rfl : args = #[v0] := by cases args; simp_all
  obtain ⟨rfl, rfl⟩ := trodVars_none hV
  obtain ⟨im0, sl0, l0, rfl, wi0, hsc0⟩ := open_w (hval 0 54 v0 rfl rfl) h0
  clear hA0 hval0
  refine (walk im0 sl0 l0 wi0 W hsc0).mono fun e W' ⟨he, bel⟩ => ?_
  subst he
  exact ⟨_, rfl, _, _, _, [], _, [], hW', trodAll_mk1 (shut_bool Try.underlying4 _), (trodAll_cons_mk (Below.trod laidOut (by kernel_rfl) (of_decide_eq_true (by kernel_rfl)) h0 bel (by obtain ⟨f, hf⟩ := h0; exact DataW.trod_lt _ _ _ _ hf)) trodAll_mk0), rfl, bel.frame _, fun h => by cases h⟩

theorem proved : Rows.FlashDoesSaid :=
  OpenClaim.holds_of_wide 8 Try.f8 rfl rfl rfl rfl rfl rfl rfl ⟨rfl, rfl, rfl, rfl, rfl⟩ rfl rfl rfl rfl rfl (by kernel_rfl) Try.func8 (by kernel_rfl)
    (of_decide_eq_true (by kernel_rfl)) (by unfold Func.isWrapper; first | (rw [if_pos (by decide +kernel)]; kernel_rfl) | (rw [if_neg (by decide +kernel)]; exact ⟨rfl, rfl⟩))
    (fun os started H enc _ => lifted os started H enc)
#print axioms proved
end Go.Proofs.Ythdhgjndchmmbaa.flashDoes
