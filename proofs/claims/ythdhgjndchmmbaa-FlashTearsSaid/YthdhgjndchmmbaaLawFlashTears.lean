/- FlashTears. No condition. -/
import Derived.Test.YthdhgjndchmmbaaFlashK
import Derived.Test.YthdhgjndchmmbaaArgs
namespace Go.Proofs.Ythdhgjndchmmbaa.flashTears
open Go Go.RowKit Go.ChangeShapes Go.WideShapes Go.ChangeAt
open Go.ChangeMaps (open_string shut_string)
set_option linter.unusedVariables false

/-- None lies between, or one, at K. -/
def Betw (K : Nat) (b a : Value) : Prop := (b = .int .i64 0 ∧ a = .int .i64 (-1)) ∨ (b = .int .i64 1 ∧ a = .int .i64 K)
/-- Bytes, a Program or an Erase, how it is torn: as a value. -/
def tornV (im s : ByteArray) (er : Bool) (a k : Int) (m : UInt8) : Value := .agg #[.string im, .string s, .bool er, .int .i64 a, .int .i64 k, .int .u8 (m.toNat : Int)]
theorem agg6 {cs : Array Value} {a b c d e f : Value} (h : cs.size = 6) (h0 : cs[0]? = some a) (h1 : cs[1]? = some b) (h2 : cs[2]? = some c) (h3 : cs[3]? = some d) (h4 : cs[4]? = some e) (h5 : cs[5]? = some f) : cs = #[a, b, c, d, e, f] := by
  obtain ⟨l⟩ := cs
  match l, h with
  | [x0, x1, x2, x3, x4, x5], _ => simp at h0 h1 h2 h3 h4 h5; simp_all
theorem open_torn {H : Type} {enc : TypeId × Value → H} {w : World} {base : Nat} {spare : Nat → Bool} {held : Bool} {v : Value} {d : DataW H} {p : List MemPlace}
    (hv : Value.okWide Try.prog w .any base 48 v) (h : DataW.Trod enc Try.prog w 0 spare held 48 v d p) :
    ∃ im s er a k m, v = tornV im s er a k m ∧ im.size ≤ maxLen ∧ s.size ≤ maxLen ∧ (-9223372036854775808 ≤ a ∧ a ≤ 9223372036854775807) ∧ (-9223372036854775808 ≤ k ∧ k ≤ 9223372036854775807) := by
  obtain ⟨cs, rfl, hsz, hf⟩ := read_struct Try.underlying48 (by kernel_rfl) (by kernel_rfl) hv h
  obtain ⟨c0, e0, r0⟩ := hf 0 _ rfl
  obtain ⟨c1, e1, r1⟩ := hf 1 _ rfl
  obtain ⟨c2, e2, r2⟩ := hf 2 _ rfl
  obtain ⟨c3, e3, r3⟩ := hf 3 _ rfl
  obtain ⟨c4, e4, r4⟩ := hf 4 _ rfl
  obtain ⟨c5, e5, r5⟩ := hf 5 _ rfl
  obtain ⟨im, rfl, wim⟩ := r0.string Try.underlying9
  obtain ⟨s, rfl, ws⟩ := r1.string Try.underlying9
  obtain ⟨er, rfl⟩ := r2.bool Try.underlying4
  obtain ⟨a, rfl, wa⟩ := r3.int Try.underlying3
  obtain ⟨k, rfl, wk⟩ := r4.int Try.underlying3
  obtain ⟨m, rfl, wm⟩ := r5.int Try.underlying5
  have bm := bounds_u8 wm
  have em : m = ((UInt8.ofNat m.toNat).toNat : Int) := by rw [UInt8.toNat_ofNat']; omega
  exact ⟨im, s, er, a, k, UInt8.ofNat m.toNat, by rw [agg6 hsz e0 e1 e2 e3 e4 e5]; unfold tornV; rw [← em], wim, ws, bounds_i64 wa, bounds_i64 wk⟩

/-- The cells of the argument's block, the part of the call's own. -/
structure Arg (w wr : World) (im s : ByteArray) (er : Bool) (a k : Int) (m : UInt8) : Prop where
  g : wr.heap[w.heap.size]? = some (.cells #[.string im, .string s, .bool er, .int .i64 a, .int .i64 k, .int .u8 (m.toNat : Int)] 48 (0, 0))
  b : Below w.heap.size w wr
theorem Arg.cells {w wr : World} {im s : ByteArray} {er : Bool} {a k : Int} {m : UInt8} (h : Arg w wr im s er a k m) :
    wr.cell? ⟨w.heap.size, 1, none⟩ = some (.string s) ∧ wr.cell? ⟨w.heap.size, 2, none⟩ = some (.bool er) ∧ wr.cell? ⟨w.heap.size, 3, none⟩ = some (.int .i64 a) ∧ wr.cell? ⟨w.heap.size, 4, none⟩ = some (.int .i64 k) ∧ wr.cell? ⟨w.heap.size, 5, none⟩ = some (.int .u8 (m.toNat : Int)) := by
  refine ⟨?_, ?_, ?_, ?_, ?_⟩ <;> (rw [cell_of_row _ _ _ _ _ _ h.g]; rfl)
theorem Arg.upd {w wr w' : World} {im s : ByteArray} {er : Bool} {a k : Int} {m : UInt8} (h : Arg w wr im s er a k m) {S : List Nat} (hu : Upd S wr w') (hS : ∀ i, i ∈ S → w.heap.size < i) : Arg w w' im s er a k m := by
  have hl := (Array.getElem?_eq_some_iff.1 h.g).1
  exact ⟨(hu.block _ hl (fun hm => by have := hS _ hm; omega)).trans h.g, Upd.below h.b hu (fun i hi => by have := hS i hi; omega) h.b.size⟩

set_option maxRecDepth 100000 in
set_option maxHeartbeats 2000000 in
theorem walk (im s : ByteArray) (er : Bool) (a k : Int) (m : UInt8) (wi : im.size ≤ maxLen) (ws : s.size ≤ maxLen) (ba : -9223372036854775808 ≤ a ∧ a ≤ 9223372036854775807) (bk : -9223372036854775808 ≤ k ∧ k ≤ 9223372036854775807) (w : World) :
    Calls Try.prog 6 #[tornV im s er a k m] w fun e w' => e = .returned (.bool true) ∧ Below w.heap.size w w' := by
  have hsm : s.size ≤ 9223372036854775807 := ws
  obtain ⟨r, hr, hrl, HFIT⟩ := fit_any im wi
  clear wi ws
  have HFIT := Box.mk HFIT; have HR := Box.mk hr; clear hr
  obtain ⟨s0, hs0⟩ : ∃ s0, s0 = FS.new r.data.toList := ⟨_, rfl⟩
  have ok0 : s0.Ok := hs0 ▸ FS.new_ok (by rw [Array.length_toList]; exact HR.out)
  have st0 : s0.Still := hs0 ▸ FS.new_still _
  have z0 : s0.steps = 0 := by rw [hs0]; rfl
  have HS := Box.mk hs0; clear hs0
  have HARM := Box.mk (FS.arm_one st0 k m)
  have ok1 : (s0.armed1 k m).Ok := by have := FS.arm_ok ok0 1 k m (by omega) bk.2; rw [HARM.out] at this; exact this
  obtain ⟨s1, hs1⟩ : ∃ s1, s1 = s0.armed1 k m := ⟨_, rfl⟩
  have HA : Box (∀ p bb cb w, Fl 63 w p bb cb s0 → Calls Try.prog 23 #[.pointer (some ⟨p, 0, none⟩), .int .i64 1, .int .i64 k, .int .u8 (m.toNat : Int)] w fun e w' => e = .returned (.int .i64 0) ∧ Fl 63 w' p bb cb s1 ∧ Upd [p] w w') :=
    ⟨fun p bb cb w h => by have := arm_any p bb cb s0 1 k m w h bk; rw [HARM.out, ← hs1] at this; exact this⟩
  clear HARM
  have HPP : ∃ q r : FS × Int, TornCall er s0 q r ∧
      (er = true → ∀ p bb cb w, Fl 63 w p bb cb s1 → Calls Try.prog 20 #[.pointer (some ⟨p, 0, none⟩), .int .i64 a] w fun e w' => e = .returned (.int .i64 q.2) ∧ Fl 63 w' p bb cb q.1 ∧ Upd [p, bb, cb] w w') ∧
      (er = true → ∀ p bb cb w, Fl 63 w p bb cb s0 → Calls Try.prog 20 #[.pointer (some ⟨p, 0, none⟩), .int .i64 a] w fun e w' => e = .returned (.int .i64 r.2) ∧ Fl 63 w' p bb cb r.1 ∧ Upd [p, bb, cb] w w') ∧
      (er = false → ∀ p bb cb w, Fl 63 w p bb cb s1 → Calls Try.prog 19 #[.pointer (some ⟨p, 0, none⟩), .int .i64 a, .string s] w fun e w' => e = .returned (.int .i64 q.2) ∧ Fl 63 w' p bb cb q.1 ∧ Upd [p, bb] w w') ∧
      (er = false → ∀ p bb cb w, Fl 63 w p bb cb s0 → Calls Try.prog 19 #[.pointer (some ⟨p, 0, none⟩), .int .i64 a, .string s] w fun e w' => e = .returned (.int .i64 r.2) ∧ Fl 63 w' p bb cb r.1 ∧ Upd [p, bb] w w') := by
    cases er
    · refine ⟨s1.program a s.data.toList, s0.program a s.data.toList, hs1 ▸ torn_prog st0 z0 k m a _, (fun h => nomatch h), (fun h => nomatch h), fun _ p bb cb w h => ?_, fun _ p bb cb w h => ?_⟩
      · exact program_any p bb cb s1 a s w h (hs1 ▸ ok1) ba hsm
      · exact program_any p bb cb s0 a s w h ok0 ba hsm
    · refine ⟨s1.erase a, s0.erase a, hs1 ▸ torn_erase st0 z0 k m a, fun _ p bb cb w h => ?_, fun _ p bb cb w h => ?_, (fun h => nomatch h), (fun h => nomatch h)⟩
      · exact erase_any p bb cb s1 a w h (hs1 ▸ ok1)
      · exact erase_any p bb cb s0 a w h ok0
  obtain ⟨q, u, TC, E1, E2, P1, P2⟩ := HPP
  obtain ⟨xq, hxq⟩ : ∃ x, x = q.2 := ⟨_, rfl⟩
  obtain ⟨xu, hxu⟩ : ∃ x, x = u.2 := ⟨_, rfl⟩
  rw [← hxq] at E1 P1
  rw [← hxu] at E2 P2
  have TC := Box.mk TC; have E1 := Box.mk E1; have E2 := Box.mk E2; have P1 := Box.mk P1; have P2 := Box.mk P2
  have XQ := Box.mk hxq; have XU := Box.mk hxu
  obtain ⟨was, hwas⟩ : ∃ i : ByteArray, i = ⟨s0.b.toArray⟩ := ⟨_, rfl⟩
  have HWAS := Box.mk hwas; have OK0 := Box.mk ok0
  have hwl : was.size ≤ 131072 := by
    have h1 := ok0.len; have h2 := ok0.few
    rw [hwas]; show s0.b.toArray.size ≤ _; rw [List.size_toArray]; omega
  clear hxq hxu hwas ok0 st0 z0 ok1 hs1 hsm ba bk
  unfold tornV
  go_enter Try.func6, Try.ntmps6
  go_wp2_with fail
  refine (HFIT.out _).mono ?_
  rintro e w1 ⟨rfl, hb1⟩
  have hz1 := hb1.size
  simp only [World.size_alloc] at hz1
  have g1 : Arg w w1 im s er a k m := ⟨by rw [hb1.block _ (by simp)]; exact heap_alloc_new _ _, ((Below.refl _ _).alloc (Nat.le_refl _) _).trans (hb1.mono (by simp))⟩
  have A1 := Box.mk g1
  clear hb1 g1
  go_wp2_with fail
  refine (open_yes r _ HR.out).mono ?_
  rintro e w2 ⟨p, bb, cb, rfl, hf, hp, hbb, hcb, hb2⟩
  have F0 : Box (Fl 63 w2 p bb cb s0) := ⟨HS.out ▸ hf⟩
  have A2 := Box.mk (A1.out.upd (Upd.of_below (S := []) hb2) (by simp))
  clear hf hb2 A1
  go_wp2_with fail
  refine (clone_any p bb cb s0 _ F0.out OK0.out).mono ?_
  rintro e w3 ⟨p', bb', cb', rfl, hf, hp', hbb', hcb', hb3⟩
  have lt := F0.out.lt
  have F0' := Box.mk hf
  have F1 := Box.mk (F0.out.upd (S := []) (Upd.of_below hb3) (by simp) (by simp) (by simp))
  have A3 := Box.mk (A2.out.upd (Upd.of_below (S := []) hb3) (by simp))
  clear hf hb3 A2 F0
  go_wp2_with fail
  refine (image_any p bb cb s0 _ F1.out).mono ?_
  rintro e w4 ⟨rfl, rfl⟩
  rw [← HWAS.out]
  obtain ⟨c1, c2, c3, c4, c5⟩ := A3.out.cells
  go_wp2_with fail
  refine (HA.out p bb cb _ F1.out).mono ?_
  rintro e w4 ⟨rfl, hf, hu⟩
  clear c1 c2 c3 c4 c5
  have F2 := Box.mk hf
  have A4 := Box.mk (A3.out.upd hu (by simp; omega))
  have F0' := Box.mk (F0'.out.upd hu (by simp; omega) (by simp; omega) (by simp; omega))
  clear hf hu F1
  obtain ⟨c1, c2, c3, c4, c5⟩ := A4.out.cells
  cases er
  case' false =>
    go_wp2_with fail
    refine (P1.out trivial p bb cb _ F2.out).mono ?_
    rintro e w5 ⟨rfl, hf, hu⟩
    clear c1 c2 c3 c4 c5
    have FQ := Box.mk hf
    have A5 := Box.mk (A4.out.upd hu (by simp; omega))
    have FU := Box.mk (F0'.out.upd hu (by simp; omega) (by simp; omega) (by simp; omega))
    clear hf hu F2 F0' A4
    obtain ⟨c1, c2, c3, c4, c5⟩ := A5.out.cells
    go_wp2_with fail
    refine (P2.out trivial p' bb' cb' _ FU.out).mono ?_
    rintro e w6 ⟨rfl, hf, hu⟩
    clear c1 c2 c3 c4 c5
    have FU := Box.mk hf
    have A6 := Box.mk (A5.out.upd hu (by simp; omega))
    have FQ := Box.mk (FQ.out.upd hu (by simp; omega) (by simp; omega) (by simp; omega))
    clear hf hu A5
    obtain ⟨c1, c2, c3, c4, c5⟩ := A6.out.cells
    clear c1 c3 c4 c5
  case' true =>
    go_wp2_with fail
    refine (E1.out trivial p bb cb _ F2.out).mono ?_
    rintro e w5 ⟨rfl, hf, hu⟩
    clear c1 c2 c3 c4 c5
    have FQ := Box.mk hf
    have A5 := Box.mk (A4.out.upd hu (by simp; omega))
    have FU := Box.mk (F0'.out.upd hu (by simp; omega) (by simp; omega) (by simp; omega))
    clear hf hu F2 F0' A4
    obtain ⟨c1, c2, c3, c4, c5⟩ := A5.out.cells
    go_wp2_with fail
    refine (E2.out trivial p' bb' cb' _ FU.out).mono ?_
    rintro e w6 ⟨rfl, hf, hu⟩
    clear c1 c2 c3 c4 c5
    have FU := Box.mk hf
    have A6 := Box.mk (A5.out.upd hu (by simp; omega))
    have FQ := Box.mk (FQ.out.upd hu (by simp; omega) (by simp; omega) (by simp; omega))
    clear hf hu A5
    obtain ⟨c1, c2, c3, c4, c5⟩ := A6.out.cells
    clear c1 c3 c4 c5
  all_goals
    clear E1 E2 P1 P2 HA HR HFIT
    by_cases hx : xu = 0
    case' neg =>
      have hx1 : (xu != 0) = true := by rw [bne_iff_ne]; exact hx
      obtain ⟨n1, n2, n3⟩ := TC.out.none (Or.inl (by rw [← XU.out]; exact hx))
      obtain rfl : xq = xu := by rw [XQ.out, XU.out, n1]
      have hne := Box.mk hx; clear hx
      have HD := fun p bb cb w h => dead_any p bb cb q.1 w h
      have HI := fun p bb cb w h => image_any p bb cb q.1 w h
      rw [n2] at HD
      rw [n3, ← HWAS.out] at HI
      have HD := Box.mk HD; have HI := Box.mk HI
      clear n1 n2 n3
      go_wp2_with fail
      refine (HD.out p bb cb _ FQ.out).mono ?_
      rintro e w7 ⟨rfl, rfl⟩
      go_wp2_with fail
      refine (HI.out p bb cb _ FQ.out).mono ?_
      rintro e w7 ⟨rfl, rfl⟩
      go_wp2_with fail
      refine (fixed_any _).mono ?_
      rintro e w8 ⟨rfl, hb⟩
      go_wp2
      go_ret
      exact ⟨rfl, (A6.out.upd (Upd.of_below (S := []) hb) (by simp)).b⟩
    case' pos =>
      subst hx
      by_cases hst : u.1.steps = 0
      case' pos =>
        obtain ⟨n1, n2, n3⟩ := TC.out.none (Or.inr hst)
        obtain rfl : xq = 0 := by rw [XQ.out, n1, ← XU.out]
        have HST := fun p bb cb w h => steps_any p bb cb u.1 w h
        rw [hst] at HST
        have HST := Box.mk HST
        have HD := fun p bb cb w h => dead_any p bb cb q.1 w h
        have HI := fun p bb cb w h => image_any p bb cb q.1 w h
        rw [n2] at HD
        rw [n3, ← HWAS.out] at HI
        have HD := Box.mk HD; have HI := Box.mk HI
        clear n1 n2 n3 hst
        go_wp2_with fail
        refine (HST.out p' bb' cb' _ FU.out).mono ?_
        rintro e w7 ⟨rfl, rfl⟩
        go_wp2_with fail
        refine (HD.out p bb cb _ FQ.out).mono ?_
        rintro e w7 ⟨rfl, rfl⟩
        go_wp2_with fail
        refine (HI.out p bb cb _ FQ.out).mono ?_
        rintro e w7 ⟨rfl, rfl⟩
        go_wp2_with fail
        refine (fixed_any _).mono ?_
        rintro e w8 ⟨rfl, hb⟩
        go_wp2
        go_ret
        exact ⟨rfl, (A6.out.upd (Upd.of_below (S := []) hb) (by simp)).b⟩
      case' neg =>
        obtain ⟨n1, n2, n3⟩ := TC.out.some (by rw [← XU.out]) hst
        obtain rfl : xq = 2 := by rw [XQ.out, n1]
        have HST := fun p bb cb w h => steps_any p bb cb u.1 w h
        obtain ⟨sx, hsx⟩ : ∃ x, x = u.1.steps := ⟨_, rfl⟩
        rw [← hsx] at HST hst
        have hst' : (sx == 0) = false := by rw [beq_eq_false_iff_ne]; exact hst
        have HST := Box.mk HST
        have HD := fun p bb cb w h => dead_any p bb cb q.1 w h
        rw [n2] at HD
        have HI := fun p bb cb w h => image_any p bb cb q.1 w h
        have HJ := fun p bb cb w h => image_any p bb cb u.1 w h
        obtain ⟨K, T3⟩ := tear3 n3 TC.out.l1 TC.out.l2
        obtain ⟨now, hnow⟩ : ∃ i : ByteArray, i = ⟨q.1.b.toArray⟩ := ⟨_, rfl⟩
        obtain ⟨all, hall⟩ : ∃ i : ByteArray, i = ⟨u.1.b.toArray⟩ := ⟨_, rfl⟩
        rw [← hnow] at HI T3
        rw [← hall] at HJ T3
        rw [← HWAS.out] at T3
        have hz1 := T3.z1; have hz2 := T3.z2
        have T3 := Box.mk T3
        have HD := Box.mk HD; have HI := Box.mk HI; have HJ := Box.mk HJ
        have HSX := Box.mk hst
        clear n1 n2 n3 hst hnow hall hsx
        have hz1' : ((now.size : Int) != (was.size : Int)) = false := by rw [bne_eq_false_iff_eq]; omega
        have hz2' : ((all.size : Int) != (was.size : Int)) = false := by rw [bne_eq_false_iff_eq]; omega
        have Z1 := Box.mk hz1; have Z2 := Box.mk hz2
        clear hz1 hz2
        go_wp2_with fail
        refine (HST.out p' bb' cb' _ FU.out).mono ?_
        rintro e w7 ⟨rfl, rfl⟩
        go_wp2_with fail
        refine (HI.out p bb cb _ FQ.out).mono ?_
        rintro e w7 ⟨rfl, rfl⟩
        go_wp2_with fail
        refine (HJ.out p' bb' cb' _ FU.out).mono ?_
        rintro e w7 ⟨rfl, rfl⟩
        go_wp2_with fail
        refine (HD.out p bb cb _ FQ.out).mono ?_
        rintro e w7 ⟨rfl, rfl⟩
        go_wp2_with fail
        obtain ⟨wo, hwo⟩ : ∃ wo : World, wo = w6 := ⟨_, rfl⟩
        go_loopw [11, 12, 13] (fun b a i wr => ∃ j : Nat, j ≤ was.size ∧ i = .int .i64 j ∧ Betw K b a ∧ Upd [] wo wr) (fun _ _ i _ => was.size - (intOf i).toNat)
        case' atStart => exact ⟨0, by omega, rfl, Or.inl ⟨rfl, rfl⟩, by rw [hwo]; exact Upd.refl _ _⟩
        case' round =>
          obtain ⟨j, hj, rfl, hbt, hu⟩ := hrel
          have A7 := Box.mk ((hwo ▸ A6).out.upd hu (by simp))
          have HU := Box.mk hu; clear hu hwo
          obtain ⟨c1, c2, c3, c4, c5⟩ := A7.out.cells
          clear c1 c3 c4 c5
          by_cases hlt : j < was.size
          case' pos =>
            have h1 : j < now.size := by have := Z1.out; omega
            have h2 : j < all.size := by have := Z2.out; omega
            have i0 : (j : Int) < (was.size : Int) := by omega
            have i1 : (j : Int) < (now.size : Int) := by omega
            have i2 : (j : Int) < (all.size : Int) := by omega
            have t3 := T3.out.at_ j hlt h1 h2
            by_cases e1 : now[j] = was[j]
            case' pos =>
              have e1' : ((now[j].toNat : Int) == (was[j].toNat : Int)) = true := by rw [e1]; simp
              clear t3 e1
              go_wp2_with fail
              go_quiet (fail)
              go_wp2
              refine ⟨⟨j + 1, by omega, by go_num, hbt, HU.out.drewN _⟩, by simp [intOf]; omega⟩
            case' neg =>
              have e1' : ((now[j].toNat : Int) == (was[j].toNat : Int)) = false := by
                rw [beq_eq_false_iff_ne]; intro h; exact e1 (UInt8.toNat_inj.1 (Int.ofNat.inj h))
              by_cases e2 : now[j] = all[j]
              case' pos =>
                have e2' : ((now[j].toNat : Int) == (all[j].toNat : Int)) = true := by rw [e2]; simp
                clear t3 e1 e2
                go_wp2_with fail
                go_quiet (fail)
                go_wp2
                refine ⟨⟨j + 1, by omega, by go_num, hbt, HU.out.drewN _⟩, by simp [intOf]; omega⟩
              case' neg =>
                have e2' : ((now[j].toNat : Int) == (all[j].toNat : Int)) = false := by
                  rw [beq_eq_false_iff_ne]; intro h; exact e2 (UInt8.toNat_inj.1 (Int.ofNat.inj h))
                have t3 := (t3.resolve_left e1).resolve_left e2
                clear e1 e2
                first
                | (have ek : (j : Int) / 64 = (K : Int) := by have := t3.1; simp at this; omega
                   have f1 : bits .andNot .u8 (was[j].toNat : Int) (now[j].toNat : Int) = 0 := by
                     have := t3.2; simp at this; rw [andNot_u8, this.1]; rfl
                   have f2 : bits .andNot .u8 (now[j].toNat : Int) (all[j].toNat : Int) = 0 := by
                     have := t3.2; simp at this; rw [andNot_u8, this.2]; rfl)
                | (obtain rfl : j = K := by have := t3.1; simpa using this
                   have f1 : bits .andNot .u8 (now[j].toNat : Int) (was[j].toNat : Int) = 0 := by
                     have := t3.2; simp at this; rw [andNot_u8, this.1]; rfl
                   have f2 : bits .andNot .u8 (all[j].toNat : Int) (now[j].toNat : Int) = 0 := by
                     have := t3.2; simp at this; rw [andNot_u8, this.2]; rfl)
                clear t3
                rcases hbt with ⟨rfl, rfl⟩ | ⟨rfl, rfl⟩
                all_goals
                  go_wp2_with fail
                  go_quiet (fail)
                  go_wp2_with fail
                  go_quiet (fail)
                  go_wp2
                  refine ⟨⟨j + 1, by omega, by go_num, by first | exact Or.inr ⟨rfl, rfl⟩ | exact Or.inr ⟨rfl, by rw [ek]⟩, HU.out.drewN _⟩, by simp [intOf]; omega⟩
          case' neg =>
            obtain rfl : j = was.size := by omega
            have i1 : ¬ ((was.size : Int) < (now.size : Int)) := by have := Z1.out; omega
            rcases hbt with ⟨rfl, rfl⟩ | ⟨rfl, rfl⟩
            all_goals
              go_wp2_with fail
              refine (fixed_any _).mono ?_
              rintro e w8 ⟨rfl, hb⟩
              go_wp2
              go_ret
              exact ⟨rfl, (A7.out.upd (Upd.of_below (S := []) hb) (by simp)).b⟩
theorem own : ownKnob Try.prog.godebug = none := by kernel_rfl
theorem laidOut : laidOutB Try.prog = true := by kernel_rfl
set_option maxRecDepth 100000 in
theorem lifted (os : Os) (started : os.Started) (H : Type) (enc : TypeId × Value → H) :
    ReturnsInHanded {} Try.checked os 6 .any (Rows.flashTearsSpec.pre6 enc Try.prog Try.f6 Rows.flashTearsRow.domain false) (Rows.flashTearsSpec.post enc Try.prog Try.f6 false true false false) := by
  refine returnsInHanded_of_change (C := Try.checked) own started (by kernel_rfl) Try.func6
    (ChangeSpec.witness6 (enc := enc) (C := Try.checked) false ⟨#[], #[.agg #[.string ⟨#[]⟩, .string ⟨#[]⟩, .bool false, .int .i64 0, .int .i64 0, .int .u8 0]], []⟩ 8 (by kernel_rfl) (by kernel_rfl) (by kernel_rfl) (by kernel_rfl)) ?_
  intro W base args ds gs before hval0 hW hcnd _
  have hval : ∀ (j : Nat) t v, Try.f6.params[j]? = some t → args[j]? = some v → Value.okWide Try.prog W .any base t v := hval0
  have hW' := hW
  obtain ⟨p, q, hA0, hV, rfl, hfz, hnd⟩ := hW
  have hA : DataW.TrodAll enc Try.prog W 0 (fun _ => true) true Try.f6.params.toList args.toList ds p := hA0
  rw [Try.params6] at hA hval
  obtain ⟨v0, vs0, d0, ds0, p0, q0, hargs, rfl, rfl, h0, r0⟩ := trodAll_cons hA
  obtain ⟨rfl, rfl, rfl⟩ := trodAll_nil r0
  obtain rfl : args = #[v0] := by cases args; simp_all
  obtain ⟨rfl, rfl⟩ := trodVars_none hV
  obtain ⟨im0, s0, er0, a0, k0, m0, rfl, wi0, ws0, ba0, bk0⟩ := open_torn (hval 0 48 v0 rfl rfl) h0
  clear hA0 hval0
  refine (walk im0 s0 er0 a0 k0 m0 wi0 ws0 ba0 bk0 W).mono fun e W' ⟨he, bel⟩ => ?_
  subst he
  exact ⟨_, rfl, _, _, _, [], _, [], hW', trodAll_mk1 (shut_bool Try.underlying4 _), (trodAll_cons_mk (Below.trod laidOut (by kernel_rfl) (of_decide_eq_true (by kernel_rfl)) h0 bel (by obtain ⟨f, hf⟩ := h0; exact DataW.trod_lt _ _ _ _ hf)) trodAll_mk0), rfl, bel.frame _, fun h => by cases h⟩

theorem proved : Rows.FlashTearsSaid :=
  OpenClaim.holds_of_wide 6 Try.f6 rfl rfl rfl rfl rfl rfl rfl ⟨rfl, rfl, rfl, rfl, rfl⟩ rfl rfl rfl rfl rfl (by kernel_rfl) Try.func6 (by kernel_rfl)
    (of_decide_eq_true (by kernel_rfl)) (by unfold Func.isWrapper; first | (rw [if_pos (by decide +kernel)]; kernel_rfl) | (rw [if_neg (by decide +kernel)]; exact ⟨rfl, rfl⟩))
    (fun os started H enc _ => lifted os started H enc)
#print axioms proved
end Go.Proofs.Ythdhgjndchmmbaa.flashTears
