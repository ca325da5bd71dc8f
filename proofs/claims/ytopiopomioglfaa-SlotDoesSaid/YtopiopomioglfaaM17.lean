/- The document of sha2: the root. The document of sha2: a kind; word, rot, three, two. The document of sha2: the first primes. The document of sha2: a block. Rows of the call's own: append, and where the row lies then; append among the operations of a region. The document of sha2: Of, a kind's constants. -/
import Derived.Test.YtopiopomioglfaaM16
import Derived.Test.YtopiopomioglfaaM05
import Derived.Deep.DeepCutAuto
import Derived.Test.YtopiopomioglfaaRows
import Derived.Test.YtopiopomioglfaaM04
import Derived.Test.YtopiopomioglfaaM01
import Derived.Laws.BitsAllLaws
import Derived.Test.YtopiopomioglfaaM10
import Derived.Test.YtopiopomioglfaaM06
import Derived.Deep.MidRow
namespace Go.Proofs.Ytopiopomioglfaa.Big
set_option maxRecDepth 100000
set_option linter.unusedVariables false
open Go Go.RowKit
open Sha (R3 M160 rmore rstep rloop rootF)

theorem als (w : World) (o : Obj) : (w.alloc o).heap.size = w.heap.size + 1 := by simp
theorem dig2 (r : Nat) : bd r 0 + bd r 1 * 4294967296 = r % 2 ^ 64 := by
  have h0 : bd r 0 = r % 4294967296 := by unfold bd; rw [pw_zero, Nat.div_one]
  have h1 : bd r 1 = r / 4294967296 % 4294967296 := rfl
  rw [h0, h1]; omega
theorem M160_pw : M160 = pw 5 := rfl
theorem one_lt_pw : 1 < pw 5 := by decide
theorem bd_z (i : Nat) : bd 0 i = 0 := by simp [bd]
theorem BigAt.lt {w : World} {p v : Nat} (h : BigAt w p v) : p < w.heap.size := (Array.getElem?_eq_some_iff.1 h).1
theorem BigAt.keep {w w' : World} {p v : Nat} {S : List Nat} (h : BigAt w p v) (u : Upd S w w') (hn : p ∉ S) : BigAt w' p v := (u.block p h.lt hn).trans h
theorem BigAt.alloc {w : World} {p v : Nat} (h : BigAt w p v) (o : Obj) : BigAt (w.alloc o) p v := (Below.heap_alloc _ _ _ h.lt).trans h
theorem BigAt.new (w : World) : BigAt (w.alloc (.cells #[.int .u64 0, .int .u64 0, .int .u64 0, .int .u64 0, .int .u64 0] 137)) w.heap.size 0 := by
  unfold BigAt
  rw [show gcell (bd 0) = #[.int .u64 0, .int .u64 0, .int .u64 0, .int .u64 0, .int .u64 0] by simp [gcell, bd_z]]
  exact heap_alloc_new _ _
/-- The root so far, its square, what is left. -/
structure RSt (w : World) (A r q l : Nat) (wx : World) : Prop where
  a : BigAt wx A r
  b : BigAt wx (A + 1) q
  c : BigAt wx (A + 2) l
  eA : A = w.heap.size
  bel : Below w.heap.size w wx
theorem RSt.onA {w wx w' : World} {A r q l r' : Nat} (h : RSt w A r q l wx) (hb : BigAt w' A r') (u : Upd [A] wx w') : RSt w A r' q l w' :=
  ⟨hb, h.b.keep u (by simp), h.c.keep u (by simp), h.eA, Upd.below h.bel u (by simp [h.eA]) h.bel.size⟩
theorem RSt.onB {w wx w' : World} {A r q l q' : Nat} (h : RSt w A r q l wx) (hb : BigAt w' (A + 1) q') (u : Upd [A + 1] wx w') : RSt w A r q' l w' :=
  ⟨h.a.keep u (by simp), hb, h.c.keep u (by simp), h.eA, Upd.below h.bel u (by simp [h.eA]) h.bel.size⟩
theorem RSt.onC {w wx w' : World} {A r q l l' : Nat} (h : RSt w A r q l wx) (hb : BigAt w' (A + 2) l') (u : Upd [A + 2] wx w') : RSt w A r q l' w' :=
  ⟨h.a.keep u (by simp), h.b.keep u (by simp), hb, h.eA, Upd.below h.bel u (by simp [h.eA]) h.bel.size⟩
theorem RSt.onD {w wx w' : World} {A r q l : Nat} {S : List Nat} (h : RSt w A r q l wx) (u : Upd S wx w') (hS : ∀ i, i ∈ S → A + 2 < i) : RSt w A r q l w' :=
  ⟨h.a.keep u (fun m => by have := hS _ m; omega), h.b.keep u (fun m => by have := hS _ m; omega), h.c.keep u (fun m => by have := hS _ m; omega), h.eA, Upd.below h.bel u (fun i hi => by have := hS _ hi; have := h.eA; omega) h.bel.size⟩
theorem RSt.ltD {w wx : World} {A r q l : Nat} (h : RSt w A r q l wx) : A + 2 < wx.heap.size := h.c.lt
theorem RSt.alloc {w wx : World} {A r q l : Nat} (h : RSt w A r q l wx) (o : Obj) : RSt w A r q l (wx.alloc o) :=
  ⟨h.a.alloc o, h.b.alloc o, h.c.alloc o, h.eA, h.bel.alloc h.bel.size o⟩
/-- The number's next bits. -/
def gN (n p j : Nat) : Nat := if 64 ≤ j then n / 2 ^ (p * (j - 64)) % 2 ^ p else 0
theorem gN_lt (n p j : Nat) (h : p ≤ 3) : gN n p j < 8 := by
  unfold gN
  split
  · have h1 := Nat.mod_lt (n / 2 ^ (p * (j - 64))) (Nat.two_pow_pos p)
    have h2 : 2 ^ p ≤ 2 ^ 3 := Nat.pow_le_pow_right (by omega) h
    omega
  · omega
theorem gN_low (n p j : Nat) (h : j < 64) : gN n p j = 0 := by unfold gN; rw [if_neg (by omega)]
theorem gN_at (n p t : Nat) : gN n p (64 + t) = n / 2 ^ (p * t) % 2 ^ p := by unfold gN; rw [if_pos (by omega), Nat.add_sub_cancel_left]

theorem rl_low (n p j r q l r1 q1 L m : Nat) (hr : r1 = r * 2 % pw 5) (hq : q1 = q * 4 % pw 5) (hl : L = (l * 2 ^ p + gN n p j) % pw 5) (hm : m = rmore p r1 q1) (h : L < m) :
    rloop n p (j + 1) ⟨r, q, l⟩ = rloop n p j ⟨r1, q1, L⟩ := by
  subst hm hl hr hq
  show rloop n p j (rstep n p j ⟨r, q, l⟩) = _
  congr 1
  exact if_pos h
theorem rl_high (n p j r q l r1 q1 L m : Nat) (hr : r1 = r * 2 % pw 5) (hq : q1 = q * 4 % pw 5) (hl : L = (l * 2 ^ p + gN n p j) % pw 5) (hm : m = rmore p r1 q1) (h : m ≤ L) :
    rloop n p (j + 1) ⟨r, q, l⟩ = rloop n p j ⟨(r1 * 1 + 1) % pw 5, ((q1 + r1 * 2) % pw 5 * 1 + 1) % pw 5, L - m⟩ := by
  subst hm hl hr hq
  show rloop n p j (rstep n p j ⟨r, q, l⟩) = _
  congr 1
  exact if_neg (Nat.not_lt.2 h)


theorem gN_2_0 (n : Nat) : gN n 2 64 = n % 4 := by
  have := gN_at n 2 0; simpa using this
theorem gN_2_1 (n : Nat) : gN n 2 65 = n / 4 % 4 := gN_at n 2 1
theorem gN_2_2 (n : Nat) : gN n 2 66 = n / 16 % 4 := gN_at n 2 2
set_option maxRecDepth 100000 in
set_option maxHeartbeats 4000000 in
theorem root_2 (n : Nat) (w : World) (hn : n < 1000) :
    Calls Try.prog 78 #[.int .i64 (n : Nat), .int .i64 2] w fun e w' => e = .returned (.int .u64 (rootF n 2 : Nat)) ∧ Below w.heap.size w w' := by
  obtain ⟨R, hR⟩ : ∃ R, R = rloop n 2 67 ⟨0, 0, 0⟩ := ⟨_, rfl⟩
  obtain ⟨v, hv⟩ : ∃ v, v = rootF n 2 := ⟨_, rfl⟩
  rw [← hv]
  have HR := Box.mk hR; have HN := Box.mk hn; have HV := Box.mk hv
  clear hR hn hv
  go_enter Try.func78, Try.ntmps78
  go_upto_region 2 with (fail)
  obtain ⟨A, hA⟩ : ∃ A, A = w.heap.size := ⟨_, rfl⟩
  have st0 : Box (RSt w A 0 0 0 (((w.alloc (.cells #[.int .u64 0, .int .u64 0, .int .u64 0, .int .u64 0, .int .u64 0] 137)).alloc (.cells #[.int .u64 0, .int .u64 0, .int .u64 0, .int .u64 0, .int .u64 0] 137)).alloc (.cells #[.int .u64 0, .int .u64 0, .int .u64 0, .int .u64 0, .int .u64 0] 137))) := by
    refine ⟨⟨?_, ?_, ?_, hA, (((Below.refl _ _).alloc (Nat.le_refl _) _).alloc ?_ _).alloc ?_ _⟩⟩
    · rw [hA]; exact ((BigAt.new w).alloc _).alloc _
    · have := (BigAt.new (w.alloc (.cells #[.int .u64 0, .int .u64 0, .int .u64 0, .int .u64 0, .int .u64 0] 137))).alloc (.cells #[.int .u64 0, .int .u64 0, .int .u64 0, .int .u64 0, .int .u64 0] 137)
      rw [als, ← hA] at this; exact this
    · have := BigAt.new ((w.alloc (.cells #[.int .u64 0, .int .u64 0, .int .u64 0, .int .u64 0, .int .u64 0] 137)).alloc (.cells #[.int .u64 0, .int .u64 0, .int .u64 0, .int .u64 0, .int .u64 0] 137))
      rw [als, als, ← hA] at this; exact this
    · rw [als]; omega
    · rw [als, als]; omega
  rw [show w.heap.size + 1 + 1 = w.heap.size + 2 from rfl, ← hA]
  clear hA
  generalize ((w.alloc (.cells #[.int .u64 0, .int .u64 0, .int .u64 0, .int .u64 0, .int .u64 0] 137)).alloc (.cells #[.int .u64 0, .int .u64 0, .int .u64 0, .int .u64 0, .int .u64 0] 137)).alloc (.cells #[.int .u64 0, .int .u64 0, .int .u64 0, .int .u64 0, .int .u64 0] 137) = w0 at st0 ⊢
  go_wp2_with fail
  go_loopw [8] (fun i wr => ∃ k : Nat, k ≤ 67 ∧ i = .int .i64 ((k : Int) - 1) ∧ ∃ r q l, rloop n 2 k ⟨r, q, l⟩ = R ∧ RSt w A r q l wr) (fun i _ => (intOf i + 1).toNat)
  case atStart => exact ⟨67, by omega, rfl, 0, 0, 0, HR.out.symm, st0.out⟩
  case round =>
    clear st0
    obtain ⟨k, hk, rfl, r, q, l, hx, st⟩ := hrel
    have HX := Box.mk hx; have st := Box.mk st
    clear hx
    by_cases hlt : 0 < k
    · obtain ⟨j, rfl⟩ : ∃ j, k = j + 1 := ⟨k - 1, by omega⟩
      rw [show ((j + 1 : Nat) : Int) - 1 = (j : Int) from by omega]
      clear hlt
      have GL := Box.mk (gN_lt n 2 j (by omega))
      have hw1 : IntKind.u64.wrap ((gN n 2 j : Nat) : Int) = ((gN n 2 j : Nat) : Int) := by rw [IntKind.wrap_u64]; have := GL.out; omega
      go_upto_if 22 with (fail)
      go_cut [9] (fun v wx => v = .int .i64 ((gN n 2 j : Nat) : Int) ∧ RSt w A r q l wx)
      case first =>
        have hn := HN.out
        by_cases hj : j < 64
        · have hjI : ¬ (64 : Int) ≤ (j : Int) := by omega
          have G0 := Box.mk (gN_low n 2 j hj)
          clear hw1 hj
          go_wp2_with fail
          go_meet
          exact ⟨by rw [G0.out]; rfl, st.out⟩
        · clear hw1
          have hj3 : j = 64 ∨ j = 65 ∨ j = 66 := by omega
          have st2 := Box.mk (st.out.onD (Upd.refl [] _).drew (by simp))
          clear hj
          rcases hj3 with rfl | rfl | rfl
          · have GA : Box (gN n 2 64 = n % 4) := ⟨gN_2_0 n⟩
            go_wp2
            go_region
            go_wp2_with fail
            go_meet
            exact ⟨by rw [GA.out]; go_num, st2.out⟩
          · have GA : Box (gN n 2 65 = n / 4 % 4) := ⟨gN_2_1 n⟩
            go_wp2
            go_region
            go_wp2_with fail
            go_meet
            exact ⟨by rw [GA.out]; go_num, st2.out⟩
          · have GA : Box (gN n 2 66 = n / 16 % 4) := ⟨gN_2_2 n⟩
            go_wp2
            go_region
            go_wp2_with fail
            go_meet
            exact ⟨by rw [GA.out]; go_num, st2.out⟩
      case rest =>
        obtain ⟨rfl, st⟩ := hcut
        have st := Box.mk st
        go_wp2_with fail
        refine (grow_any (A + 2) l 4 (gN n 2 j) _ st.out.c (by omega) (by have := GL.out; omega)).mono ?_
        rintro e w1 ⟨rfl, h1, u1⟩
        have st := Box.mk (st.out.onC h1 u1); clear h1 u1
        go_wp2_with fail
        refine (grow_any A r 2 0 _ st.out.a (by omega) (by omega)).mono ?_
        rintro e w2 ⟨rfl, h2, u2⟩
        rw [Nat.add_zero (r * 2)] at h2
        have st := Box.mk (st.out.onA h2 u2); clear h2 u2
        go_wp2_with fail
        refine (grow_any (A + 1) q 4 0 _ st.out.b (by omega) (by omega)).mono ?_
        rintro e w3 ⟨rfl, h3, u3⟩
        rw [Nat.add_zero (q * 4)] at h3
        have st := Box.mk (st.out.onB h3 u3); clear h3 u3
        obtain ⟨L, hL⟩ : ∃ L, L = (l * 4 + gN n 2 j) % pw 5 := ⟨_, rfl⟩
        obtain ⟨r1, hr1⟩ : ∃ x, x = r * 2 % pw 5 := ⟨_, rfl⟩
        obtain ⟨q1, hq1⟩ : ∃ x, x = q * 4 % pw 5 := ⟨_, rfl⟩
        rw [← hL, ← hr1, ← hq1] at st
        have HL := Box.mk hL; have HR1 := Box.mk hr1; have HQ1 := Box.mk hq1
        have bL : Box (L < pw 5) := ⟨by rw [hL]; exact Nat.mod_lt _ (pw_pos 5)⟩
        clear hL hr1 hq1
        go_wp2_with fail
        have hD := Box.mk st.out.ltD
        have st := Box.mk (st.out.alloc (.cells #[.int .u64 0, .int .u64 0, .int .u64 0, .int .u64 0, .int .u64 0] 137))
        have dt := Box.mk (BigAt.new w3)
        obtain ⟨D, hDD⟩ : ∃ D, D = w3.heap.size := ⟨_, rfl⟩
        rw [← hDD] at hD dt ⊢
        clear hDD
        refine (grow_any D 0 1 1 _ dt.out (by omega) (by omega)).mono ?_
        rintro e w4 ⟨rfl, h4, u4⟩
        rw [show (0 * 1 + 1) % pw 5 = 1 from Nat.mod_eq_of_lt one_lt_pw] at h4
        have st := Box.mk (st.out.onD u4 (by intro i hi; have := hD.out; simp at hi; omega))
        have dt := Box.mk h4; clear h4 u4
        go_wp2_with fail
        refine (plus_any D A 1 r1 2 _ dt.out st.out.a (by have := hD.out; omega) (by omega)).mono ?_
        rintro e w5 ⟨rfl, h5, u5⟩
        have st := Box.mk (st.out.onD u5 (by intro i hi; have := hD.out; simp at hi; omega))
        have dt := Box.mk h5; clear h5 u5
        obtain ⟨m, hm⟩ : ∃ x, x = (1 + r1 * 2) % pw 5 := ⟨_, rfl⟩
        rw [← hm] at dt
        have bm : Box (m < pw 5) := ⟨by rw [hm]; exact Nat.mod_lt _ (pw_pos 5)⟩
        have HM : Box (m = rmore 2 r1 q1) := ⟨by rw [hm]; rfl⟩
        clear hm
        have hbe := fun wx h1 h2 => below_any (A + 2) D L m wx h1 h2 bL.out bm.out
        by_cases hlm : L < m
        · rw [decide_eq_true hlm] at hbe
          have HLM := Box.mk hlm; clear hlm
          have hbe := Box.mk hbe
          go_wp2_with fail
          refine (hbe.out _ st.out.c dt.out).mono ?_
          rintro e w7 ⟨rfl, u7⟩
          have st := Box.mk (st.out.onD u7 (by simp))
          clear u7 hbe
          go_wp2_with fail
          refine ⟨⟨j, by omega, by go_num, r1, q1, L, ?_, st.out⟩, by simp [intOf]⟩
          rw [← HX.out]; exact (rl_low n 2 j r q l r1 q1 L m HR1.out HQ1.out HL.out HM.out HLM.out).symm
        · rw [decide_eq_false hlm] at hbe
          have HLM := Box.mk (show m ≤ L by omega); clear hlm
          have hbe := Box.mk hbe
          go_wp2_with fail
          refine (hbe.out _ st.out.c dt.out).mono ?_
          rintro e w7 ⟨rfl, u7⟩
          have st := Box.mk (st.out.onD u7 (by simp))
          have dt := Box.mk (dt.out.keep u7 (by simp))
          clear u7 hbe
          go_wp2_with fail
          refine (less_any (A + 2) D L m _ st.out.c dt.out (by have := hD.out; omega) HLM.out).mono ?_
          rintro e w8 ⟨rfl, h8, u8⟩
          have st := Box.mk (st.out.onC h8 u8); clear h8 u8 dt
          go_wp2_with fail
          refine (plus_any (A + 1) A q1 r1 2 _ st.out.b st.out.a (by omega) (by omega)).mono ?_
          rintro e w9 ⟨rfl, h9, u9⟩
          have st := Box.mk (st.out.onB h9 u9); clear h9 u9
          go_wp2_with fail
          refine (grow_any (A + 1) ((q1 + r1 * 2) % pw 5) 1 1 _ st.out.b (by omega) (by omega)).mono ?_
          rintro e w10 ⟨rfl, h10, u10⟩
          have st := Box.mk (st.out.onB h10 u10); clear h10 u10
          go_wp2_with fail
          refine (grow_any A r1 1 1 _ st.out.a (by omega) (by omega)).mono ?_
          rintro e w11 ⟨rfl, h11, u11⟩
          have st := Box.mk (st.out.onA h11 u11); clear h11 u11
          go_wp2_with fail
          refine ⟨⟨j, by omega, by go_num, (r1 * 1 + 1) % pw 5, ((q1 + r1 * 2) % pw 5 * 1 + 1) % pw 5, L - m, ?_, st.out⟩, by simp [intOf]⟩
          rw [← HX.out]; exact (rl_high n 2 j r q l r1 q1 L m HR1.out HQ1.out HL.out HM.out HLM.out).symm
    · obtain rfl : k = 0 := by omega
      have HX2 : Box (r = R.r) := ⟨by rw [← HX.out]; rfl⟩
      clear hlt
      have c0 : wr.cell? ⟨A, 0, none⟩ = some (.int .u64 (bd r 0 : Nat)) := by
        rw [cell_of_row _ _ _ _ _ _ st.out.a, gcell_get _ _ (by omega)]
      have c1 : wr.cell? ⟨A, 1, none⟩ = some (.int .u64 (bd r 1 : Nat)) := by
        rw [cell_of_row _ _ _ _ _ _ st.out.a, gcell_get _ _ (by omega)]
      have h0 := bd_lt r 0; have h1 := bd_lt r 1
      have HV : Box (bd r 0 + bd r 1 * 4294967296 = v) := ⟨by
        rw [HV.out]; unfold rootF; rw [← HR.out, ← HX2.out]; exact dig2 r⟩
      obtain ⟨a, ha⟩ : ∃ a, a = bd r 0 := ⟨_, rfl⟩
      obtain ⟨b, hb⟩ : ∃ a, a = bd r 1 := ⟨_, rfl⟩
      rw [← ha] at c0 h0 HV
      rw [← hb] at c1 h1 HV
      clear ha hb
      have hv := HV.out
      obtain ⟨c, hc⟩ : ∃ c, c = b * 4294967296 := ⟨_, rfl⟩
      have hw1 : IntKind.u64.wrap ((b : Int) * 4294967296) = (c : Int) := by rw [IntKind.wrap_u64]; omega
      have hw2 : IntKind.u64.wrap ((a : Int) + (c : Int)) = (v : Int) := by rw [IntKind.wrap_u64]; omega
      clear hv hc h0 h1
      go_wp2
      go_quiet (fail)
      go_wp2
      go_ret
      exact ⟨rfl, Upd.below st.out.bel ((Upd.refl [] _).drewN _) (by simp) st.out.bel.size⟩

theorem gN_3_0 (n : Nat) : gN n 3 64 = n % 8 := by
  have := gN_at n 3 0; simpa using this
theorem gN_3_1 (n : Nat) : gN n 3 65 = n / 8 % 8 := gN_at n 3 1
theorem gN_3_2 (n : Nat) : gN n 3 66 = n / 64 % 8 := gN_at n 3 2
set_option maxRecDepth 100000 in
set_option maxHeartbeats 4000000 in
theorem root_3 (n : Nat) (w : World) (hn : n < 1000) :
    Calls Try.prog 78 #[.int .i64 (n : Nat), .int .i64 3] w fun e w' => e = .returned (.int .u64 (rootF n 3 : Nat)) ∧ Below w.heap.size w w' := by
  obtain ⟨R, hR⟩ : ∃ R, R = rloop n 3 67 ⟨0, 0, 0⟩ := ⟨_, rfl⟩
  obtain ⟨v, hv⟩ : ∃ v, v = rootF n 3 := ⟨_, rfl⟩
  rw [← hv]
  have HR := Box.mk hR; have HN := Box.mk hn; have HV := Box.mk hv
  clear hR hn hv
  go_enter Try.func78, Try.ntmps78
  go_upto_region 2 with (fail)
  obtain ⟨A, hA⟩ : ∃ A, A = w.heap.size := ⟨_, rfl⟩
  have st0 : Box (RSt w A 0 0 0 (((w.alloc (.cells #[.int .u64 0, .int .u64 0, .int .u64 0, .int .u64 0, .int .u64 0] 137)).alloc (.cells #[.int .u64 0, .int .u64 0, .int .u64 0, .int .u64 0, .int .u64 0] 137)).alloc (.cells #[.int .u64 0, .int .u64 0, .int .u64 0, .int .u64 0, .int .u64 0] 137))) := by
    refine ⟨⟨?_, ?_, ?_, hA, (((Below.refl _ _).alloc (Nat.le_refl _) _).alloc ?_ _).alloc ?_ _⟩⟩
    · rw [hA]; exact ((BigAt.new w).alloc _).alloc _
    · have := (BigAt.new (w.alloc (.cells #[.int .u64 0, .int .u64 0, .int .u64 0, .int .u64 0, .int .u64 0] 137))).alloc (.cells #[.int .u64 0, .int .u64 0, .int .u64 0, .int .u64 0, .int .u64 0] 137)
      rw [als, ← hA] at this; exact this
    · have := BigAt.new ((w.alloc (.cells #[.int .u64 0, .int .u64 0, .int .u64 0, .int .u64 0, .int .u64 0] 137)).alloc (.cells #[.int .u64 0, .int .u64 0, .int .u64 0, .int .u64 0, .int .u64 0] 137))
      rw [als, als, ← hA] at this; exact this
    · rw [als]; omega
    · rw [als, als]; omega
  rw [show w.heap.size + 1 + 1 = w.heap.size + 2 from rfl, ← hA]
  clear hA
  generalize ((w.alloc (.cells #[.int .u64 0, .int .u64 0, .int .u64 0, .int .u64 0, .int .u64 0] 137)).alloc (.cells #[.int .u64 0, .int .u64 0, .int .u64 0, .int .u64 0, .int .u64 0] 137)).alloc (.cells #[.int .u64 0, .int .u64 0, .int .u64 0, .int .u64 0, .int .u64 0] 137) = w0 at st0 ⊢
  go_wp2_with fail
  go_loopw [8] (fun i wr => ∃ k : Nat, k ≤ 67 ∧ i = .int .i64 ((k : Int) - 1) ∧ ∃ r q l, rloop n 3 k ⟨r, q, l⟩ = R ∧ RSt w A r q l wr) (fun i _ => (intOf i + 1).toNat)
  case atStart => exact ⟨67, by omega, rfl, 0, 0, 0, HR.out.symm, st0.out⟩
  case round =>
    clear st0
    obtain ⟨k, hk, rfl, r, q, l, hx, st⟩ := hrel
    have HX := Box.mk hx; have st := Box.mk st
    clear hx
    by_cases hlt : 0 < k
    · obtain ⟨j, rfl⟩ : ∃ j, k = j + 1 := ⟨k - 1, by omega⟩
      rw [show ((j + 1 : Nat) : Int) - 1 = (j : Int) from by omega]
      clear hlt
      have GL := Box.mk (gN_lt n 3 j (by omega))
      have hw1 : IntKind.u64.wrap ((gN n 3 j : Nat) : Int) = ((gN n 3 j : Nat) : Int) := by rw [IntKind.wrap_u64]; have := GL.out; omega
      go_upto_if 22 with (fail)
      go_cut [9] (fun v wx => v = .int .i64 ((gN n 3 j : Nat) : Int) ∧ RSt w A r q l wx)
      case first =>
        have hn := HN.out
        by_cases hj : j < 64
        · have hjI : ¬ (64 : Int) ≤ (j : Int) := by omega
          have G0 := Box.mk (gN_low n 3 j hj)
          clear hw1 hj
          go_wp2_with fail
          go_meet
          exact ⟨by rw [G0.out]; rfl, st.out⟩
        · clear hw1
          have hj3 : j = 64 ∨ j = 65 ∨ j = 66 := by omega
          have st2 := Box.mk (st.out.onD (Upd.refl [] _).drew (by simp))
          clear hj
          rcases hj3 with rfl | rfl | rfl
          · have GA : Box (gN n 3 64 = n % 8) := ⟨gN_3_0 n⟩
            go_wp2
            go_region
            go_wp2_with fail
            go_meet
            exact ⟨by rw [GA.out]; go_num, st2.out⟩
          · have GA : Box (gN n 3 65 = n / 8 % 8) := ⟨gN_3_1 n⟩
            go_wp2
            go_region
            go_wp2_with fail
            go_meet
            exact ⟨by rw [GA.out]; go_num, st2.out⟩
          · have GA : Box (gN n 3 66 = n / 64 % 8) := ⟨gN_3_2 n⟩
            go_wp2
            go_region
            go_wp2_with fail
            go_meet
            exact ⟨by rw [GA.out]; go_num, st2.out⟩
      case rest =>
        obtain ⟨rfl, st⟩ := hcut
        have st := Box.mk st
        go_wp2_with fail
        refine (grow_any (A + 2) l 8 (gN n 3 j) _ st.out.c (by omega) (by have := GL.out; omega)).mono ?_
        rintro e w1 ⟨rfl, h1, u1⟩
        have st := Box.mk (st.out.onC h1 u1); clear h1 u1
        go_wp2_with fail
        refine (grow_any A r 2 0 _ st.out.a (by omega) (by omega)).mono ?_
        rintro e w2 ⟨rfl, h2, u2⟩
        rw [Nat.add_zero (r * 2)] at h2
        have st := Box.mk (st.out.onA h2 u2); clear h2 u2
        go_wp2_with fail
        refine (grow_any (A + 1) q 4 0 _ st.out.b (by omega) (by omega)).mono ?_
        rintro e w3 ⟨rfl, h3, u3⟩
        rw [Nat.add_zero (q * 4)] at h3
        have st := Box.mk (st.out.onB h3 u3); clear h3 u3
        obtain ⟨L, hL⟩ : ∃ L, L = (l * 8 + gN n 3 j) % pw 5 := ⟨_, rfl⟩
        obtain ⟨r1, hr1⟩ : ∃ x, x = r * 2 % pw 5 := ⟨_, rfl⟩
        obtain ⟨q1, hq1⟩ : ∃ x, x = q * 4 % pw 5 := ⟨_, rfl⟩
        rw [← hL, ← hr1, ← hq1] at st
        have HL := Box.mk hL; have HR1 := Box.mk hr1; have HQ1 := Box.mk hq1
        have bL : Box (L < pw 5) := ⟨by rw [hL]; exact Nat.mod_lt _ (pw_pos 5)⟩
        clear hL hr1 hq1
        go_wp2_with fail
        have hD := Box.mk st.out.ltD
        have st := Box.mk (st.out.alloc (.cells #[.int .u64 0, .int .u64 0, .int .u64 0, .int .u64 0, .int .u64 0] 137))
        have dt := Box.mk (BigAt.new w3)
        obtain ⟨D, hDD⟩ : ∃ D, D = w3.heap.size := ⟨_, rfl⟩
        rw [← hDD] at hD dt ⊢
        clear hDD
        refine (grow_any D 0 1 1 _ dt.out (by omega) (by omega)).mono ?_
        rintro e w4 ⟨rfl, h4, u4⟩
        rw [show (0 * 1 + 1) % pw 5 = 1 from Nat.mod_eq_of_lt one_lt_pw] at h4
        have st := Box.mk (st.out.onD u4 (by intro i hi; have := hD.out; simp at hi; omega))
        have dt := Box.mk h4; clear h4 u4
        go_wp2_with fail
        refine (plus_any D A 1 r1 3 _ dt.out st.out.a (by have := hD.out; omega) (by omega)).mono ?_
        rintro e w5 ⟨rfl, h5, u5⟩
        have st := Box.mk (st.out.onD u5 (by intro i hi; have := hD.out; simp at hi; omega))
        have dt := Box.mk h5; clear h5 u5
        go_wp2_with fail
        refine (plus_any D (A + 1) ((1 + r1 * 3) % pw 5) q1 3 _ dt.out st.out.b (by have := hD.out; omega) (by omega)).mono ?_
        rintro e w6 ⟨rfl, h6, u6⟩
        have st := Box.mk (st.out.onD u6 (by intro i hi; have := hD.out; simp at hi; omega))
        have dt := Box.mk h6; clear h6 u6
        obtain ⟨m, hm⟩ : ∃ x, x = ((1 + r1 * 3) % pw 5 + q1 * 3) % pw 5 := ⟨_, rfl⟩
        rw [← hm] at dt
        have bm : Box (m < pw 5) := ⟨by rw [hm]; exact Nat.mod_lt _ (pw_pos 5)⟩
        have HM : Box (m = rmore 3 r1 q1) := ⟨by rw [hm]; rfl⟩
        clear hm
        have hbe := fun wx h1 h2 => below_any (A + 2) D L m wx h1 h2 bL.out bm.out
        by_cases hlm : L < m
        · rw [decide_eq_true hlm] at hbe
          have HLM := Box.mk hlm; clear hlm
          have hbe := Box.mk hbe
          go_wp2_with fail
          refine (hbe.out _ st.out.c dt.out).mono ?_
          rintro e w7 ⟨rfl, u7⟩
          have st := Box.mk (st.out.onD u7 (by simp))
          clear u7 hbe
          go_wp2_with fail
          refine ⟨⟨j, by omega, by go_num, r1, q1, L, ?_, st.out⟩, by simp [intOf]⟩
          rw [← HX.out]; exact (rl_low n 3 j r q l r1 q1 L m HR1.out HQ1.out HL.out HM.out HLM.out).symm
        · rw [decide_eq_false hlm] at hbe
          have HLM := Box.mk (show m ≤ L by omega); clear hlm
          have hbe := Box.mk hbe
          go_wp2_with fail
          refine (hbe.out _ st.out.c dt.out).mono ?_
          rintro e w7 ⟨rfl, u7⟩
          have st := Box.mk (st.out.onD u7 (by simp))
          have dt := Box.mk (dt.out.keep u7 (by simp))
          clear u7 hbe
          go_wp2_with fail
          refine (less_any (A + 2) D L m _ st.out.c dt.out (by have := hD.out; omega) HLM.out).mono ?_
          rintro e w8 ⟨rfl, h8, u8⟩
          have st := Box.mk (st.out.onC h8 u8); clear h8 u8 dt
          go_wp2_with fail
          refine (plus_any (A + 1) A q1 r1 2 _ st.out.b st.out.a (by omega) (by omega)).mono ?_
          rintro e w9 ⟨rfl, h9, u9⟩
          have st := Box.mk (st.out.onB h9 u9); clear h9 u9
          go_wp2_with fail
          refine (grow_any (A + 1) ((q1 + r1 * 2) % pw 5) 1 1 _ st.out.b (by omega) (by omega)).mono ?_
          rintro e w10 ⟨rfl, h10, u10⟩
          have st := Box.mk (st.out.onB h10 u10); clear h10 u10
          go_wp2_with fail
          refine (grow_any A r1 1 1 _ st.out.a (by omega) (by omega)).mono ?_
          rintro e w11 ⟨rfl, h11, u11⟩
          have st := Box.mk (st.out.onA h11 u11); clear h11 u11
          go_wp2_with fail
          refine ⟨⟨j, by omega, by go_num, (r1 * 1 + 1) % pw 5, ((q1 + r1 * 2) % pw 5 * 1 + 1) % pw 5, L - m, ?_, st.out⟩, by simp [intOf]⟩
          rw [← HX.out]; exact (rl_high n 3 j r q l r1 q1 L m HR1.out HQ1.out HL.out HM.out HLM.out).symm
    · obtain rfl : k = 0 := by omega
      have HX2 : Box (r = R.r) := ⟨by rw [← HX.out]; rfl⟩
      clear hlt
      have c0 : wr.cell? ⟨A, 0, none⟩ = some (.int .u64 (bd r 0 : Nat)) := by
        rw [cell_of_row _ _ _ _ _ _ st.out.a, gcell_get _ _ (by omega)]
      have c1 : wr.cell? ⟨A, 1, none⟩ = some (.int .u64 (bd r 1 : Nat)) := by
        rw [cell_of_row _ _ _ _ _ _ st.out.a, gcell_get _ _ (by omega)]
      have h0 := bd_lt r 0; have h1 := bd_lt r 1
      have HV : Box (bd r 0 + bd r 1 * 4294967296 = v) := ⟨by
        rw [HV.out]; unfold rootF; rw [← HR.out, ← HX2.out]; exact dig2 r⟩
      obtain ⟨a, ha⟩ : ∃ a, a = bd r 0 := ⟨_, rfl⟩
      obtain ⟨b, hb⟩ : ∃ a, a = bd r 1 := ⟨_, rfl⟩
      rw [← ha] at c0 h0 HV
      rw [← hb] at c1 h1 HV
      clear ha hb
      have hv := HV.out
      obtain ⟨c, hc⟩ : ∃ c, c = b * 4294967296 := ⟨_, rfl⟩
      have hw1 : IntKind.u64.wrap ((b : Int) * 4294967296) = (c : Int) := by rw [IntKind.wrap_u64]; omega
      have hw2 : IntKind.u64.wrap ((a : Int) + (c : Int)) = (v : Int) := by rw [IntKind.wrap_u64]; omega
      clear hv hc h0 h1
      go_wp2
      go_quiet (fail)
      go_wp2
      go_ret
      exact ⟨rfl, Upd.below st.out.bel ((Upd.refl [] _).drewN _) (by simp) st.out.bel.size⟩
end Go.Proofs.Ytopiopomioglfaa.Big
namespace Go.Proofs.Ytopiopomioglfaa.Big
set_option maxRecDepth 100000
set_option linter.unusedVariables false
open Go Go.RowKit
open Sha (T3 Sh rotr big sml)

/-- A kind as it lies in memory: bits of a word, shifts, two slices. -/
structure KV where
  W : Nat
  s : Sh
  K : Value
  H : Value
def iv (n : Nat) : Value := .int .i64 (n : Nat)
def tc (t : T3) : Array Value := #[iv t.a, iv t.b, iv t.c]
def kc (k : KV) : Array Value := #[iv k.W, iv k.s.a.a, iv k.s.a.b, iv k.s.a.c, iv k.s.b.a, iv k.s.b.b, iv k.s.b.c, iv k.s.c.a, iv k.s.c.b, iv k.s.c.c, iv k.s.d.a, iv k.s.d.b, iv k.s.d.c, k.K, k.H]
theorem kc_info : (Try.prog.info? 109).map (·.size) = some 15 := by kernel_rfl
theorem cellG {W w : World} {S : List Nat} (hw : GrS S W w) {b : Nat} {cs : Array Value} {t : TypeId} {fr : Nat × Nat} (hb : W.heap[b]? = some (.cells cs t fr)) (hn : b ∉ S) (i : Nat) : w.cell? ⟨b, i, none⟩ = cs[i]? :=
  cell_of_row _ _ _ _ _ _ (hw.at hn hb)
section
variable {W : World} {S : List Nat} {T : (World → Prop) → List Nat → Act → Prop} {L : List (Oper × Kd)} {F : World → Prop} {N : List Nat} {a : Act} {o : Oper}
theorem gm_loadK (x : Operand) (ho : o.op = .load 109 x) (b : Nat) (k : KV) (hb : W.heap[b]? = some (.cells (kc k) 109 (0, 0))) (hbS : b ∉ S) (hx : a.eval x = .pointer (some ⟨b, 0, none⟩))
    (h : wpG Try.prog W S T L F N (a.put o.dst (.agg (kc k)))) : wpG Try.prog W S T ((o, .flo) :: L) F N a :=
  gm_loadS x ho b (kc k) 109 (0, 0) _ hb hbS hx Try.underlying109 rfl kc_info h
end
theorem pw_le {W : Nat} (hW : W = 32 ∨ W = 64) : 2 ^ W ≤ 18446744073709551616 := by rcases hW with rfl | rfl <;> decide
theorem rot_b1 {W x n p : Nat} (hW : W = 32 ∨ W = 64) (hx : x < 2 ^ W) (hp : p = x / 2 ^ n) : p < 18446744073709551616 := by
  have := pw_le hW; have := Nat.div_le_self x (2 ^ n); omega
theorem rot_fin {W x n s : Nat} (hW : W = 32 ∨ W = 64) (hx : x < 2 ^ W) (hn : n + s = W) : (x / 2 ^ n ||| x * 2 ^ s % 18446744073709551616) % 2 ^ W = rotr W x n := by
  unfold rotr
  rw [Nat.or_mod_two_pow, Nat.mod_eq_of_lt (Nat.lt_of_le_of_lt (Nat.div_le_self _ _) hx), show W - n = s by omega, Nat.mod_mod_of_dvd _ (by rcases hW with rfl | rfl <;> decide)]
theorem rotr_lt {W x n : Nat} (hx : x < 2 ^ W) : rotr W x n < 2 ^ W := Nat.or_lt_two_pow (Nat.lt_of_le_of_lt (Nat.div_le_self _ _) hx) (Nat.mod_lt _ (Nat.two_pow_pos _))

set_option maxRecDepth 100000 in
set_option maxHeartbeats 2000000 in
theorem word_any (k : KV) (hW : k.W = 32 ∨ k.W = 64) (x : Nat) (hx : x < 18446744073709551616) (w : World) :
    Calls Try.prog 79 #[.agg (kc k), .int .u64 (x : Nat)] w fun e w' => e = .returned (.int .u64 (x % 2 ^ k.W : Nat)) ∧ Below w.heap.size w w' := by
  have hc : (w.alloc (.cells (kc k) 109)).cell? ⟨w.heap.size, 0, none⟩ = some (iv k.W) := (cell_of_row _ _ _ _ _ _ (heap_alloc_new w _)).trans rfl
  unfold iv at hc
  have hb : Below w.heap.size w (w.alloc (.cells (kc k) 109)) := (Below.refl _ _).alloc (Nat.le_refl _) _
  have HB := Box.mk hb; clear hb
  obtain ⟨z, hz⟩ : ∃ z, z = x % 2 ^ k.W := ⟨_, rfl⟩
  rw [← hz]
  rcases hW with hW | hW
  · obtain ⟨y, hy⟩ : ∃ y, y = x * 4294967296 % 18446744073709551616 := ⟨_, rfl⟩
    rw [hW] at hc hz
    have hw1 : IntKind.u64.wrap ((x : Int) * 4294967296) = (y : Int) := by rw [IntKind.wrap_u64]; omega
    have hw2 : (y : Int) / 4294967296 = (z : Int) := by omega
    clear hy hz hx
    go_enter Try.func79, Try.ntmps79
    go_wp2
    go_quiet (fail)
    go_wp2
    go_ret
    exact ⟨rfl, Upd.below HB.out ((Upd.refl [] _).drewN _) (by simp) HB.out.size⟩
  · rw [hW] at hc hz
    have hw1 : IntKind.u64.wrap (x : Int) = (z : Int) := by rw [IntKind.wrap_u64]; omega
    clear hz hx
    go_enter Try.func79, Try.ntmps79
    go_wp2
    go_quiet (fail)
    go_wp2
    go_ret
    exact ⟨rfl, Upd.below HB.out ((Upd.refl [] _).drewN _) (by simp) HB.out.size⟩
set_option maxRecDepth 100000 in
set_option maxHeartbeats 2000000 in
theorem rot_any (k : KV) (hW : k.W = 32 ∨ k.W = 64) (x n : Nat) (hx : x < 2 ^ k.W) (hn : n ≤ k.W) (w : World) :
    Calls Try.prog 94 #[.agg (kc k), .int .u64 (x : Nat), .int .i64 (n : Nat)] w fun e w' => e = .returned (.int .u64 (rotr k.W x n : Nat)) ∧ Below w.heap.size w w' := by
  obtain ⟨V, hV⟩ : ∃ V, V = rotr k.W x n := ⟨_, rfl⟩
  rw [← hV]
  obtain ⟨s, hs⟩ : ∃ s, n + s = k.W := ⟨k.W - n, by omega⟩
  have hws : IntKind.i64.wrap ((k.W : Int) - (n : Int)) = (s : Int) := by rw [IntKind.wrap_i64]; omega
  obtain ⟨p, hp⟩ : ∃ p, p = x / 2 ^ n := ⟨_, rfl⟩
  obtain ⟨q, hq⟩ : ∃ q, q = x * 2 ^ s % 18446744073709551616 := ⟨_, rfl⟩
  have hn64 : n ≤ 64 := by omega
  have hs64 : s ≤ 64 := by omega
  have hpI : (x : Int) / 2 ^ min n 64 = (p : Int) := by rw [hp, Nat.min_eq_left hn64]; simp
  have hqI : IntKind.u64.wrap ((x : Int) * 2 ^ min s 64) = (q : Int) := by rw [hq, IntKind.wrap_u64, Nat.min_eq_left hs64]; simp
  have hor : bits .or .u64 (p : Int) (q : Int) = ((p ||| q : Nat) : Int) := u64_or_nat p q (rot_b1 hW hx hp) (by omega)
  have hfin : (p ||| q) % 2 ^ k.W = V := by rw [hV, hp, hq]; exact rot_fin hW hx hs
  have hlt : p ||| q < 18446744073709551616 := Nat.or_lt_two_pow (n := 64) (rot_b1 hW hx hp) (by omega)
  obtain ⟨o, ho⟩ : ∃ o, o = p ||| q := ⟨_, rfl⟩
  rw [← ho] at hor hfin hlt
  have HV := Box.mk hfin; have HL := Box.mk hlt
  clear hp hq hx hV hn ho hfin hlt hs hn64 hs64
  go_enter Try.func94, Try.ntmps94
  go_upto_region 1 with (fail)
  obtain ⟨b, hb⟩ : ∃ b, b = w.heap.size := ⟨_, rfl⟩
  rw [← hb]
  have HB : Box ((w.alloc (.cells (kc k) 109)).drew.heap[b]? = some (.cells (kc k) 109 (0, 0))) := ⟨by rw [hb]; exact heap_alloc_new w _⟩
  have B0 : Box (Below w.heap.size w (w.alloc (.cells (kc k) 109)).drew) := ⟨((Below.refl _ _).alloc (Nat.le_refl _) _).drew⟩
  clear hb
  generalize w.alloc (.cells (kc k) 109) = w0 at HB B0 ⊢
  refine wp_region_mix 12 [.flo, .flo, .flo, .flo, .flo, .flo, .flo, .flo, .flo, .flo, .flo, .cha] (by kernel_rfl) (by kernel_rfl) rfl ?_
  simp only [List.take, List.zip, List.zipWith]
  try go_frame
  refine gm_loadK (.tmp 3) rfl b k HB.out (by simp) rfl ?_
  try go_frame
  refine gm_flo (.int .u64 (x : Nat)) (fun w1 hw1 => ?_) ?_
  case refine_1 =>
    go_simp
  try go_frame
  refine gm_flo (.int .i64 (n : Nat)) (fun w1 hw1 => ?_) ?_
  case refine_1 =>
    go_simp
  try go_frame
  refine gm_flo (.int .u64 (p : Nat)) (fun w1 hw1 => ?_) ?_
  case refine_1 =>
    go_simp
  try go_frame
  refine gm_flo (.int .u64 (x : Nat)) (fun w1 hw1 => ?_) ?_
  case refine_1 =>
    go_simp
  try go_frame
  refine gm_flo (.pointer (some ⟨b, 0, none⟩)) (fun w1 hw1 => ?_) ?_
  case refine_1 =>
    go_simp
  try go_frame
  refine gm_flo (.int .i64 (k.W : Nat)) (fun w1 hw1 => ?_) ?_
  case refine_1 =>
    have hc : w1.cell? ⟨b, 0, none⟩ = some (.int .i64 (k.W : Nat)) := cellG hw1 HB.out (by simp) 0
    go_simp
  try go_frame
  refine gm_flo (.int .i64 (n : Nat)) (fun w1 hw1 => ?_) ?_
  case refine_1 =>
    go_simp
  try go_frame
  refine gm_flo (.int .i64 (s : Nat)) (fun w1 hw1 => ?_) ?_
  case refine_1 =>
    go_simp
  try go_frame
  refine gm_flo (.int .u64 (q : Nat)) (fun w1 hw1 => ?_) ?_
  case refine_1 =>
    go_simp
  try go_frame
  refine gm_flo (.int .u64 (o : Nat)) (fun w1 hw1 => ?_) ?_
  case refine_1 =>
    go_simp
  try go_frame
  refine gm_call [.agg (kc k), .int .u64 (o : Nat)] (by kernel_rfl) rfl rfl Stb.tt (fun w1 hw1 hF1 => (word_any k hW o HL.out w1).mono ?_)
  rintro e w2 ⟨rfl, hw2⟩
  refine ⟨_, rfl, hw2, ?_⟩
  clear hw1 hF1 w1 hw2 w2
  try go_frame
  refine gm_nil ?_
  intro w9 hw9 hF9
  simp only [List.drop]
  try go_frame
  go_wp2
  go_ret
  exact ⟨by rw [HV.out]; rfl, B0.out.trans (hw9.below.mono B0.out.size)⟩
set_option maxRecDepth 100000 in
set_option maxHeartbeats 2000000 in
theorem three_any (k : KV) (hW : k.W = 32 ∨ k.W = 64) (x : Nat) (t : T3) (hx : x < 2 ^ k.W) (ha : t.a ≤ k.W) (hb : t.b ≤ k.W) (hc : t.c ≤ k.W) (w : World) :
    Calls Try.prog 81 #[.agg (kc k), .int .u64 (x : Nat), .agg (tc t)] w fun e w' => e = .returned (.int .u64 (big k.W x t : Nat)) ∧ Below w.heap.size w w' := by
  obtain ⟨V, hV⟩ : ∃ V, V = big k.W x t := ⟨_, rfl⟩
  rw [← hV]
  have hl := pw_le hW
  have C0 := Box.mk (rot_any k hW x t.a hx ha); have C1 := Box.mk (rot_any k hW x t.b hx hb); have C2 := Box.mk (rot_any k hW x t.c hx hc)
  have l0 := rotr_lt (n := t.a) hx; have l1 := rotr_lt (n := t.b) hx; have l2 : rotr k.W x t.c < 2 ^ k.W := rotr_lt hx
  unfold big at hV
  generalize rotr k.W x t.a = r0 at C0 l0 hV
  generalize rotr k.W x t.b = r1 at C1 l1 hV
  generalize rotr k.W x t.c = r2 at C2 l2 hV
  have hx1 := u64_xor_nat r0 r1 (by omega) (by omega)
  have lx : r0 ^^^ r1 < 18446744073709551616 := Nat.xor_lt_two_pow (n := 64) (by omega) (by omega)
  obtain ⟨y, hy⟩ : ∃ y, y = r0 ^^^ r1 := ⟨_, rfl⟩
  rw [← hy] at hx1 hV lx
  have hx2 := u64_xor_nat y r2 lx (by omega)
  rw [← hV] at hx2
  clear hy hV l0 l1 l2 lx hl hx ha hb hc
  go_enter Try.func81, Try.ntmps81
  go_upto_region 1 with (fail)
  have HB : Box (((w.alloc (.cells (kc k) 109)).alloc (.cells (tc t) 106)).drew.heap[w.heap.size]? = some (.cells (kc k) 109 (0, 0))) := ⟨(heap_alloc_old _ _ (by simp)).trans (heap_alloc_new w _)⟩
  have HC : Box (((w.alloc (.cells (kc k) 109)).alloc (.cells (tc t) 106)).drew.heap[w.heap.size + 1]? = some (.cells (tc t) 106 (0, 0))) := ⟨by
    have := heap_alloc_new (w.alloc (.cells (kc k) 109)) (.cells (tc t) 106)
    rw [show (w.alloc (.cells (kc k) 109)).heap.size = w.heap.size + 1 by simp] at this; exact this⟩
  have B0 : Box (Below w.heap.size w ((w.alloc (.cells (kc k) 109)).alloc (.cells (tc t) 106)).drew) := ⟨(((Below.refl _ _).alloc (Nat.le_refl _) _).alloc (by simp) _).drew⟩
  obtain ⟨c, hc⟩ : ∃ b, b = w.heap.size + 1 := ⟨_, rfl⟩
  rw [← hc] at HC ⊢
  obtain ⟨b, hb⟩ : ∃ b, b = w.heap.size := ⟨_, rfl⟩
  rw [← hb] at HB ⊢
  clear hb hc
  generalize (w.alloc (.cells (kc k) 109)).alloc (.cells (tc t) 106) = w0 at HB HC B0 ⊢
  refine wp_region_mix 17 [.flo, .flo, .flo, .flo, .cha, .flo, .flo, .flo, .flo, .cha, .flo, .flo, .flo, .flo, .flo, .cha, .flo] (by kernel_rfl) (by kernel_rfl) rfl ?_
  simp only [List.take, List.zip, List.zipWith]
  try go_frame
  refine gm_loadK (.tmp 3) rfl b k HB.out (by simp) rfl ?_
  try go_frame
  refine gm_flo (.int .u64 (x : Nat)) (fun w1 hw1 => ?_) ?_
  case refine_1 =>
    go_simp
  try go_frame
  refine gm_flo (.pointer (some ⟨c, 0, none⟩)) (fun w1 hw1 => ?_) ?_
  case refine_1 =>
    go_simp
  try go_frame
  refine gm_flo (.int .i64 (t.a : Nat)) (fun w1 hw1 => ?_) ?_
  case refine_1 =>
    have hc : w1.cell? ⟨c, 0, none⟩ = some (.int .i64 (t.a : Nat)) := cellG hw1 HC.out (by simp) 0
    go_simp
  try go_frame
  refine gm_call [.agg (kc k), .int .u64 (x : Nat), .int .i64 (t.a : Nat)] (by kernel_rfl) rfl rfl Stb.tt (fun w1 hw1 hF1 => (C0.out w1).mono ?_)
  rintro e w2 ⟨rfl, hw2⟩
  refine ⟨_, rfl, hw2, ?_⟩
  clear hw1 hF1 w1 hw2 w2
  try go_frame
  refine gm_loadK (.tmp 3) rfl b k HB.out (by simp) rfl ?_
  try go_frame
  refine gm_flo (.int .u64 (x : Nat)) (fun w1 hw1 => ?_) ?_
  case refine_1 =>
    go_simp
  try go_frame
  refine gm_flo (.pointer (some ⟨c, 1, none⟩)) (fun w1 hw1 => ?_) ?_
  case refine_1 =>
    go_simp
  try go_frame
  refine gm_flo (.int .i64 (t.b : Nat)) (fun w1 hw1 => ?_) ?_
  case refine_1 =>
    have hc : w1.cell? ⟨c, 1, none⟩ = some (.int .i64 (t.b : Nat)) := cellG hw1 HC.out (by simp) 1
    go_simp
  try go_frame
  refine gm_call [.agg (kc k), .int .u64 (x : Nat), .int .i64 (t.b : Nat)] (by kernel_rfl) rfl rfl Stb.tt (fun w1 hw1 hF1 => (C1.out w1).mono ?_)
  rintro e w2 ⟨rfl, hw2⟩
  refine ⟨_, rfl, hw2, ?_⟩
  clear hw1 hF1 w1 hw2 w2
  try go_frame
  refine gm_flo (.int .u64 (y : Nat)) (fun w1 hw1 => ?_) ?_
  case refine_1 =>
    go_simp
  try go_frame
  refine gm_loadK (.tmp 3) rfl b k HB.out (by simp) rfl ?_
  try go_frame
  refine gm_flo (.int .u64 (x : Nat)) (fun w1 hw1 => ?_) ?_
  case refine_1 =>
    go_simp
  try go_frame
  refine gm_flo (.pointer (some ⟨c, 2, none⟩)) (fun w1 hw1 => ?_) ?_
  case refine_1 =>
    go_simp
  try go_frame
  refine gm_flo (.int .i64 (t.c : Nat)) (fun w1 hw1 => ?_) ?_
  case refine_1 =>
    have hc : w1.cell? ⟨c, 2, none⟩ = some (.int .i64 (t.c : Nat)) := cellG hw1 HC.out (by simp) 2
    go_simp
  try go_frame
  refine gm_call [.agg (kc k), .int .u64 (x : Nat), .int .i64 (t.c : Nat)] (by kernel_rfl) rfl rfl Stb.tt (fun w1 hw1 hF1 => (C2.out w1).mono ?_)
  rintro e w2 ⟨rfl, hw2⟩
  refine ⟨_, rfl, hw2, ?_⟩
  clear hw1 hF1 w1 hw2 w2
  try go_frame
  refine gm_flo (.int .u64 (V : Nat)) (fun w1 hw1 => ?_) ?_
  case refine_1 =>
    go_simp
  try go_frame
  refine gm_nil ?_
  intro w9 hw9 hF9
  simp only [List.drop]
  try go_frame
  go_wp2
  go_ret
  exact ⟨rfl, B0.out.trans (hw9.below.mono B0.out.size)⟩
set_option maxRecDepth 100000 in
set_option maxHeartbeats 2000000 in
theorem two_any (k : KV) (hW : k.W = 32 ∨ k.W = 64) (x : Nat) (t : T3) (hx : x < 2 ^ k.W) (ha : t.a ≤ k.W) (hb : t.b ≤ k.W) (hc : t.c ≤ k.W) (w : World) :
    Calls Try.prog 80 #[.agg (kc k), .int .u64 (x : Nat), .agg (tc t)] w fun e w' => e = .returned (.int .u64 (sml k.W x t : Nat)) ∧ Below w.heap.size w w' := by
  obtain ⟨V, hV⟩ : ∃ V, V = sml k.W x t := ⟨_, rfl⟩
  rw [← hV]
  have hl := pw_le hW
  have C0 := Box.mk (rot_any k hW x t.a hx ha); have C1 := Box.mk (rot_any k hW x t.b hx hb); have hd : (x : Int) / 2 ^ min t.c 64 = ((x / 2 ^ t.c : Nat) : Int) := by rw [Nat.min_eq_left (by omega)]; simp
  have l0 := rotr_lt (n := t.a) hx; have l1 := rotr_lt (n := t.b) hx; have l2 : x / 2 ^ t.c < 2 ^ k.W := Nat.lt_of_le_of_lt (Nat.div_le_self _ _) hx
  unfold sml at hV
  generalize rotr k.W x t.a = r0 at C0 l0 hV
  generalize rotr k.W x t.b = r1 at C1 l1 hV
  generalize x / 2 ^ t.c = r2 at hd l2 hV
  have hx1 := u64_xor_nat r0 r1 (by omega) (by omega)
  have lx : r0 ^^^ r1 < 18446744073709551616 := Nat.xor_lt_two_pow (n := 64) (by omega) (by omega)
  obtain ⟨y, hy⟩ : ∃ y, y = r0 ^^^ r1 := ⟨_, rfl⟩
  rw [← hy] at hx1 hV lx
  have hx2 := u64_xor_nat y r2 lx (by omega)
  rw [← hV] at hx2
  clear hy hV l0 l1 l2 lx hl hx ha hb hc
  go_enter Try.func80, Try.ntmps80
  go_upto_region 1 with (fail)
  have HB : Box (((w.alloc (.cells (kc k) 109)).alloc (.cells (tc t) 106)).drew.heap[w.heap.size]? = some (.cells (kc k) 109 (0, 0))) := ⟨(heap_alloc_old _ _ (by simp)).trans (heap_alloc_new w _)⟩
  have HC : Box (((w.alloc (.cells (kc k) 109)).alloc (.cells (tc t) 106)).drew.heap[w.heap.size + 1]? = some (.cells (tc t) 106 (0, 0))) := ⟨by
    have := heap_alloc_new (w.alloc (.cells (kc k) 109)) (.cells (tc t) 106)
    rw [show (w.alloc (.cells (kc k) 109)).heap.size = w.heap.size + 1 by simp] at this; exact this⟩
  have B0 : Box (Below w.heap.size w ((w.alloc (.cells (kc k) 109)).alloc (.cells (tc t) 106)).drew) := ⟨(((Below.refl _ _).alloc (Nat.le_refl _) _).alloc (by simp) _).drew⟩
  obtain ⟨c, hc⟩ : ∃ b, b = w.heap.size + 1 := ⟨_, rfl⟩
  rw [← hc] at HC ⊢
  obtain ⟨b, hb⟩ : ∃ b, b = w.heap.size := ⟨_, rfl⟩
  rw [← hb] at HB ⊢
  clear hb hc
  generalize (w.alloc (.cells (kc k) 109)).alloc (.cells (tc t) 106) = w0 at HB HC B0 ⊢
  refine wp_region_mix 16 [.flo, .flo, .flo, .flo, .cha, .flo, .flo, .flo, .flo, .cha, .flo, .flo, .flo, .flo, .flo, .flo] (by kernel_rfl) (by kernel_rfl) rfl ?_
  simp only [List.take, List.zip, List.zipWith]
  try go_frame
  refine gm_loadK (.tmp 3) rfl b k HB.out (by simp) rfl ?_
  try go_frame
  refine gm_flo (.int .u64 (x : Nat)) (fun w1 hw1 => ?_) ?_
  case refine_1 =>
    go_simp
  try go_frame
  refine gm_flo (.pointer (some ⟨c, 0, none⟩)) (fun w1 hw1 => ?_) ?_
  case refine_1 =>
    go_simp
  try go_frame
  refine gm_flo (.int .i64 (t.a : Nat)) (fun w1 hw1 => ?_) ?_
  case refine_1 =>
    have hc : w1.cell? ⟨c, 0, none⟩ = some (.int .i64 (t.a : Nat)) := cellG hw1 HC.out (by simp) 0
    go_simp
  try go_frame
  refine gm_call [.agg (kc k), .int .u64 (x : Nat), .int .i64 (t.a : Nat)] (by kernel_rfl) rfl rfl Stb.tt (fun w1 hw1 hF1 => (C0.out w1).mono ?_)
  rintro e w2 ⟨rfl, hw2⟩
  refine ⟨_, rfl, hw2, ?_⟩
  clear hw1 hF1 w1 hw2 w2
  try go_frame
  refine gm_loadK (.tmp 3) rfl b k HB.out (by simp) rfl ?_
  try go_frame
  refine gm_flo (.int .u64 (x : Nat)) (fun w1 hw1 => ?_) ?_
  case refine_1 =>
    go_simp
  try go_frame
  refine gm_flo (.pointer (some ⟨c, 1, none⟩)) (fun w1 hw1 => ?_) ?_
  case refine_1 =>
    go_simp
  try go_frame
  refine gm_flo (.int .i64 (t.b : Nat)) (fun w1 hw1 => ?_) ?_
  case refine_1 =>
    have hc : w1.cell? ⟨c, 1, none⟩ = some (.int .i64 (t.b : Nat)) := cellG hw1 HC.out (by simp) 1
    go_simp
  try go_frame
  refine gm_call [.agg (kc k), .int .u64 (x : Nat), .int .i64 (t.b : Nat)] (by kernel_rfl) rfl rfl Stb.tt (fun w1 hw1 hF1 => (C1.out w1).mono ?_)
  rintro e w2 ⟨rfl, hw2⟩
  refine ⟨_, rfl, hw2, ?_⟩
  clear hw1 hF1 w1 hw2 w2
  try go_frame
  refine gm_flo (.int .u64 (y : Nat)) (fun w1 hw1 => ?_) ?_
  case refine_1 =>
    go_simp
  try go_frame
  refine gm_flo (.int .u64 (x : Nat)) (fun w1 hw1 => ?_) ?_
  case refine_1 =>
    go_simp
  try go_frame
  refine gm_flo (.pointer (some ⟨c, 2, none⟩)) (fun w1 hw1 => ?_) ?_
  case refine_1 =>
    go_simp
  try go_frame
  refine gm_flo (.int .i64 (t.c : Nat)) (fun w1 hw1 => ?_) ?_
  case refine_1 =>
    have hc : w1.cell? ⟨c, 2, none⟩ = some (.int .i64 (t.c : Nat)) := cellG hw1 HC.out (by simp) 2
    go_simp
  try go_frame
  refine gm_flo (.int .u64 (r2 : Nat)) (fun w1 hw1 => ?_) ?_
  case refine_1 =>
    go_simp
  try go_frame
  refine gm_flo (.int .u64 (V : Nat)) (fun w1 hw1 => ?_) ?_
  case refine_1 =>
    go_simp
  try go_frame
  refine gm_nil ?_
  intro w9 hw9 hF9
  simp only [List.drop]
  try go_frame
  go_wp2
  go_ret
  exact ⟨rfl, B0.out.trans (hw9.below.mono B0.out.size)⟩
end Go.Proofs.Ytopiopomioglfaa.Big
namespace Go.Proofs.Ytopiopomioglfaa.Big
set_option maxRecDepth 100000
set_option linter.unusedVariables false
open Go Go.RowKit
open Sha (ps)

/-- The primes below n. -/
@[irreducible] def pb (n : Nat) : List Nat := ps.filter (· < n)
theorem pb_zero : pb 2 = [] := by unfold pb; decide +kernel
theorem pb_step : ∀ n, n < 410 → 2 ≤ n → pb (n + 1) = if (pb n).all (fun p => n % p != 0) then pb n ++ [n] else pb n := by unfold pb; decide +kernel
theorem pb_many : ∀ n, n < 411 → (pb n).length < 80 → n < 410 := by unfold pb; decide +kernel
theorem pb_take : ∀ n, n < 411 → pb n = ps.take (pb n).length := by unfold pb; decide +kernel
theorem pb_pos : ∀ n, n < 411 → ∀ p ∈ pb n, 0 < p := by
  intro n _ p hp
  unfold pb at hp
  have := (List.mem_filter.1 hp).1
  exact (by decide +kernel : ∀ p ∈ ps, 0 < p) p this
theorem iv_at (L : List Nat) (j : Nat) (h : j < L.length) : (L.map iv)[j]? = some (.int .i64 (L.getD j 0 : Nat)) := by
  rw [List.getElem?_map, List.getElem?_eq_getElem h, List.getD_eq_getElem?_getD, List.getElem?_eq_getElem h]; rfl
theorem all_step (L : List Nat) (f : Nat → Bool) (j : Nat) (h : j < L.length) : (L.take (j + 1)).all f = ((L.take j).all f && f (L.getD j 0)) := by
  rw [List.take_succ_eq_append_getElem h, List.all_append, List.getD_eq_getElem?_getD, List.getElem?_eq_getElem h]; simp

theorem bne_cast (r : Nat) : (r != 0) = ((r : Int) != 0) := by
  rcases Nat.eq_zero_or_pos r with h | h
  · subst h; rfl
  · rw [bne_iff_ne.2 (show r ≠ 0 by omega), bne_iff_ne.2 (show (r : Int) ≠ 0 by omega)]

set_option maxRecDepth 100000 in
set_option maxHeartbeats 2000000 in
theorem primes_any (many : Nat) (hm : many ≤ 80) (w : World) :
    Calls Try.prog 77 #[.int .i64 (many : Nat)] w fun e w' => ∃ v, e = .returned v ∧ Own w' w.heap.size 3 v many ((ps.take many).map iv) ∧ v ≠ .slice none 0 0 ∧ Below w.heap.size w w' := by
  go_enter Try.func77, Try.ntmps77
  go_wp2_with fail
  have o0 : Box (Own (w.alloc (.cells #[] 3)) w.heap.size 3 (.slice (some ⟨w.heap.size, 0, none⟩) 0 0) 0 []) := ⟨Own.made w 3 #[] 0 w.heap.size (Nat.le_refl _) (by unfold maxLen; omega) rfl⟩
  have b0 : Box (Below w.heap.size w (w.alloc (.cells #[] 3))) := ⟨(Below.refl _ _).alloc (Nat.le_refl _) _⟩
  have s0 : Box (w.heap.size ≤ (w.alloc (.cells #[] 3)).heap.size) := ⟨by simp⟩
  go_loopw [3, 4] (fun v i wr => ∃ n : Nat, 2 ≤ n ∧ n ≤ 410 ∧ i = .int .i64 n ∧ Own wr w.heap.size 3 v (pb n).length ((pb n).map iv) ∧ v ≠ .slice none 0 0 ∧ (pb n).length ≤ many ∧ Below w.heap.size w wr ∧ w.heap.size ≤ wr.heap.size) (fun _ i _ => 410 - (intOf i).toNat)
  case atStart => exact ⟨2, by omega, by omega, rfl, by rw [pb_zero]; exact o0.out, by simp, by rw [pb_zero]; simp, b0.out, s0.out⟩
  case round =>
    clear o0 b0 s0
    obtain ⟨n, hn2, hn, rfl, hown, hne, hlm, hbel, hsz⟩ := hrel
    have hpm := pb_many n (by omega)
    obtain ⟨g, cap, rfl, hBg, hcell, hglt, htc⟩ := hown.cells hne
    by_cases hlt : (pb n).length < many
    · have hn3 : n < 410 := hpm (by omega)
      have hst := pb_step n hn3 hn2
      have hpos := pb_pos n (by omega)
      generalize pb n = L at hown hlm hcell hlt hst hpos
      obtain ⟨c, hc⟩ : ∃ c, c = L.length := ⟨_, rfl⟩
      rw [← hc] at hown hlm hlt ⊢
      have OW := Box.mk hown; have HB := Box.mk hbel; have HSZ := Box.mk hsz; have HST := Box.mk hst; have HPOS := Box.mk hpos; have HC := Box.mk hc; have HCELL := Box.mk hcell
      have hcI : (c : Int) < (many : Int) := by omega
      clear hown hbel hst hpos hc hcell hpm hlt hne hBg hglt htc
      go_wp2_with fail
      obtain ⟨wo, rfl⟩ : ∃ wo : World, wo = wr := ⟨_, rfl⟩
      go_loop [5, 6] (fun x i => ∃ j : Nat, j ≤ c ∧ i = .int .i64 j ∧ x = .bool ((L.take j).all (fun p => n % p != 0))) (fun _ i => c - (intOf i).toNat)
      case atStart => exact ⟨0, by omega, rfl, by simp⟩
      case round =>
        obtain ⟨j, hj, rfl, rfl⟩ := hrel
        by_cases hjl : j < c
        · have hjI : (j : Int) < (c : Int) := by omega
          have hL : j < L.length := by have := HC.out; omega
          have has := all_step L (fun p => n % p != 0) j hL
          have hcj := HCELL.out j _ (iv_at L j hL)
          have hpp : 0 < L.getD j 0 := HPOS.out _ (by rw [List.getD_eq_getElem?_getD, List.getElem?_eq_getElem hL]; simp)
          generalize L.getD j 0 = p at has hcj hpp
          have hp0 : ¬ p = 0 := by omega
          obtain ⟨r, hr⟩ : ∃ r, r = n % p := ⟨_, rfl⟩
          have hrI : (n : Int).tmod (p : Int) = (r : Int) := by rw [hr]; exact rfl
          have hrI2 : (n : Int) % (p : Int) = (r : Int) := by rw [hr]; simp
          rw [← hr] at has
          have HAS := Box.mk has
          clear has hr hL hpp
          generalize (L.take j).all (fun p => n % p != 0) = bb at HAS ⊢
          cases bb
          · clear hcj hp0 hrI hrI2
            have HAS : Box ((L.take (j + 1)).all (fun p => n % p != 0) = false) := ⟨by rw [HAS.out]; simp⟩
            go_wp2_with fail
            exact ⟨⟨j + 1, by omega, by go_num, by rw [HAS.out]⟩, by simp [intOf]; omega⟩
          · have HAS : Box ((L.take (j + 1)).all (fun p => n % p != 0) = ((r : Int) != 0)) := ⟨by rw [HAS.out, Bool.true_and]; exact bne_cast r⟩
            go_wp2_with fail
            exact ⟨⟨j + 1, by omega, by go_num, by rw [HAS.out]⟩, by simp [intOf]; omega⟩
        · obtain rfl : j = c := by omega
          have HST : Box (pb (n + 1) = if L.all (fun p => n % p != 0) then L ++ [n] else L) := HST
          rw [List.take_of_length_le (by have := HC.out; omega)]
          generalize L.all (fun p => n % p != 0) = bb at HST ⊢
          clear hjl
          cases bb
          · have HSTa : Box (pb (n + 1) = L) := ⟨by rw [HST.out]; rfl⟩
            clear HST
            go_wp2_with fail
            exact ⟨⟨n + 1, by omega, by omega, by go_num, by rw [HSTa.out, ← HC.out]; exact OW.out, by simp, by rw [HSTa.out, ← HC.out]; exact hlm, HB.out, HSZ.out⟩, by simp [intOf]; omega⟩
          · have HSTa : Box (pb (n + 1) = L ++ [n]) := ⟨by rw [HST.out]; rfl⟩
            clear HST
            have HLEN : Box ((L ++ [n]).length = j + 1) := ⟨by rw [List.length_append, ← HC.out]; rfl⟩
            go_wp2_with (at_builtin; refine wpList_app1 (w0 := w) rfl (.tmp 31) (.tmp 33) 55 rfl w.heap.size 3 (.int .i64 0) 8 Try.underlying55 (by kernel_rfl) rfl (.slice (some ⟨g, 0, none⟩) j cap) j (L.map iv) rfl (OW.out.alloc _) (HB.out.alloc HSZ.out _) (by have := HSZ.out; simp; omega) wo.heap.size (.int .i64 (n : Nat)) rfl (cell_new _ _ _) rfl (by omega) (by omega) ?_)
            intro v' w' o' b' s' gr' ne'
            have ON : Box (Own w' w.heap.size 3 v' (j + 1) ((L ++ [n]).map iv)) := ⟨by rw [List.map_append]; exact o'⟩
            have BN := Box.mk b'; have SN := Box.mk s'; have NN := Box.mk ne'
            clear o' b' s' gr' ne'
            go_wp2_with fail
            exact ⟨⟨n + 1, by omega, by omega, by go_num, by rw [HSTa.out, HLEN.out]; exact ON.out, NN.out, by rw [HSTa.out, HLEN.out]; omega, BN.out, SN.out⟩, by simp [intOf]; omega⟩
    · have he : (pb n).length = many := by omega
      have hpt := pb_take n (by omega)
      rw [he] at hown hpt ⊢
      rw [hpt] at hown
      have OW := Box.mk hown; have HB := Box.mk hbel
      clear hown hbel hcell hpm hlt hne hBg hglt htc hpt he hlm
      go_wp2_with fail
      go_ret
      exact ⟨_, rfl, OW.out, by simp, HB.out⟩
end Go.Proofs.Ytopiopomioglfaa.Big
namespace Go.Proofs.Ytopiopomioglfaa.Big
set_option maxRecDepth 100000
set_option linter.unusedVariables false
open Go Go.RowKit
open Sha

section
variable {P : Program} {W : World} {S : List Nat} {T : (World → Prop) → List Nat → Act → Prop} {L : List (Oper × Kd)} {F : World → Prop} {N : List Nat} {a : Act} {o : Oper}
theorem gm_one {ty e : TypeId} (x : Operand) (ho : o.op = .buildSlice ty 1 #[(0, x)]) (v : Value) (hx : a.eval x = v) (hr : ∀ w, (Instr.buildSlice ty 1 #[(0, v)]).run P w = .ok (.slice (some ⟨w.heap.size, 0, none⟩) 1 1) (w.alloc (.cells #[v] e))) (hF : Stb F)
    (h : ∀ b, W.heap.size ≤ b → wpG P W S T L (fun w => F w ∧ w.heap[b]? = some (.cells #[v] e (0, 0))) ([b] ++ N) (a.put o.dst (.slice (some ⟨b, 0, none⟩) 1 1))) : wpG P W S T ((o, .cha) :: L) F N a :=
  gm_val fun w hw hFw => ⟨_, _, by
    subst hx
    unfold execOp
    simp only [ho, Sem.run_bind, List.map_toArray, List.map_cons, List.map_nil, hr, Result.andThen_ok, Sem.run_pure], Gr.alloc _ _, _, [w.heap.size], hF.new _ _, ⟨hF _ _ (Gr.alloc _ _) hFw, heap_alloc_new _ _⟩, fun b hb => by simp at hb; subst hb; simp, h _ hw.size⟩
/-- Three numbers out of the middle of a kind. -/
theorem gm_loadT (x : Operand) (ho : o.op = .load 106 x) (b off : Nat) (k : KV) (t : T3) (hb : W.heap[b]? = some (.cells (kc k) 109 (0, 0))) (hbS : b ∉ S) (hx : a.eval x = .pointer (some ⟨b, off, none⟩))
    (ht : ∀ j u, [iv t.a, iv t.b, iv t.c][j]? = some u → (kc k)[off + j]? = some u)
    (h : wpG Try.prog W S T L F N (a.put o.dst (.agg (tc t)))) : wpG Try.prog W S T ((o, .flo) :: L) F N a :=
  gm_flo _ (fun w hw => by
    unfold execOp
    simp only [ho, hx, Sem.run_bind, Sem.run_pure, Result.andThen_ok, run_loadAt_mid w b off 106 [iv t.a, iv t.b, iv t.c] _ (fun j u hj => (cellG hw hb hbS _).trans (ht j u hj)) Try.underlying106 rfl (by kernel_rfl)]
    rfl) h
end
theorem kc_A (k : KV) : ∀ j u, [iv k.s.a.a, iv k.s.a.b, iv k.s.a.c][j]? = some u → (kc k)[1 + j]? = some u
  | 0, _, h => h | 1, _, h => h | 2, _, h => h | _ + 3, _, h => by simp at h
theorem kc_B (k : KV) : ∀ j u, [iv k.s.b.a, iv k.s.b.b, iv k.s.b.c][j]? = some u → (kc k)[4 + j]? = some u
  | 0, _, h => h | 1, _, h => h | 2, _, h => h | _ + 3, _, h => by simp at h
theorem kc_C (k : KV) : ∀ j u, [iv k.s.c.a, iv k.s.c.b, iv k.s.c.c][j]? = some u → (kc k)[7 + j]? = some u
  | 0, _, h => h | 1, _, h => h | 2, _, h => h | _ + 3, _, h => by simp at h
theorem kc_D (k : KV) : ∀ j u, [iv k.s.d.a, iv k.s.d.b, iv k.s.d.c][j]? = some u → (kc k)[10 + j]? = some u
  | 0, _, h => h | 1, _, h => h | 2, _, h => h | _ + 3, _, h => by simp at h
theorem cellW {W w : World} (hw : GrS [] W w) {g j : Nat} {v : Value} (hg : g < W.heap.size) (h : W.cell? ⟨g, j, none⟩ = some v) : w.cell? ⟨g, j, none⟩ = some v :=
  (World.cell?_of_block (w := W) (hw.block g hg (by simp))).trans h
/-- The kind's box lies there; from B on alone memory has turned. -/
structure BSt (w : World) (B b : Nat) (k : KV) (wr : World) : Prop where
  bel : Below B w wr
  sz : B ≤ wr.heap.size
  kb : wr.heap[b]? = some (.cells (kc k) 109 (0, 0))
theorem BSt.drew {w wr : World} {B b : Nat} {k : KV} (h : BSt w B b k wr) : BSt w B b k wr.drew := ⟨h.bel.drew, h.sz, h.kb⟩
theorem BSt.gr {w wr w' : World} {B b : Nat} {k : KV} (h : BSt w B b k wr) (hg : Gr wr w') : BSt w B b k w' := ⟨h.bel.trans (hg.below.mono h.sz), Nat.le_trans h.sz hg.size, hg.block h.kb⟩
theorem own_ne {w : World} {B b n : Nat} {k : KV} {v : Value} {xs : List Value} (h : Own w B 92 v n xs) (hb : w.heap[b]? = some (.cells (kc k) 109 (0, 0))) : v.ownBlock ≠ some b := by
  intro he
  rcases h.2 with ⟨rfl, _⟩ | ⟨g, cap, cur, fr, rfl, _, hg, _⟩
  · simp [Value.ownBlock] at he
  · simp [Value.ownBlock] at he
    subst he
    rw [hb] at hg
    have := Option.some.inj hg
    injection this with _ h2 _
    exact absurd h2 (by decide)
theorem BSt.grown {w wr w' : World} {B b n : Nat} {k : KV} {v : Value} {xs : List Value} (h : BSt w B b k wr) (ho : Own wr B 92 v n xs) (hg : wr.grownBy w' v.ownBlock) (hb : Below B w w') (hs : B ≤ w'.heap.size) : BSt w B b k w' :=
  ⟨hb, hs, (hg.block b (Array.getElem?_eq_some_iff.1 h.kb).1 (Ne.symm (own_ne ho h.kb))).trans h.kb⟩
theorem map_at (L : List Nat) (j : Nat) (h : j < L.length) : (L.map u64v)[j]? = some (.int .u64 (L.getD j 0 : Nat)) := by
  rw [List.getElem?_map, List.getElem?_eq_getElem h, List.getD_eq_getElem?_getD, List.getElem?_eq_getElem h]; rfl
theorem v8c64_set (W k : Nat) (hk : k < 8) (A v : V8) (x : Nat) (hx : x = (A.list.getD k 0 + v.list.getD k 0) % 2 ^ W) :
    (v8c64 (mixV W k A v)).setIfInBounds k (.int .u64 (x : Nat)) = v8c64 (mixV W (k + 1) A v) := by
  subst hx
  match k, hk with
  | 0, _ => rfl
  | 1, _ => rfl
  | 2, _ => rfl
  | 3, _ => rfl
  | 4, _ => rfl
  | 5, _ => rfl
  | 6, _ => rfl
  | 7, _ => rfl
theorem mixV_at (W k : Nat) (hk : k < 8) (A v : V8) : (mixV W k A v).list.getD k 0 = A.list.getD k 0 := by
  match k, hk with
  | 0, _ => rfl
  | 1, _ => rfl
  | 2, _ => rfl
  | 3, _ => rfl
  | 4, _ => rfl
  | 5, _ => rfl
  | 6, _ => rfl
  | 7, _ => rfl
theorem plus_comm (W : Nat) (v u : V8) : plus W v u = plus W u v := by
  unfold plus; congr 2 <;> omega
theorem sml_lt {W x : Nat} (t : T3) (hx : x < 2 ^ W) : sml W x t < 2 ^ W :=
  Nat.xor_lt_two_pow (Nat.xor_lt_two_pow (rotr_lt hx) (rotr_lt hx)) (Nat.lt_of_le_of_lt (Nat.div_le_self _ _) hx)
theorem big_lt {W x : Nat} (t : T3) (hx : x < 2 ^ W) : Sha.big W x t < 2 ^ W :=
  Nat.xor_lt_two_pow (Nat.xor_lt_two_pow (rotr_lt hx) (rotr_lt hx)) (rotr_lt hx)
theorem add4 {W : Nat} (hW : W = 32 ∨ W = 64) (a b c d : Nat) : (((a + b) % 18446744073709551616 + c) % 18446744073709551616 + d) % 18446744073709551616 % 2 ^ W = (a + b + c + d) % 2 ^ W := by
  rcases hW with rfl | rfl <;> omega
theorem add5 {W : Nat} (hW : W = 32 ∨ W = 64) (a b c d e : Nat) : ((((a + b) % 18446744073709551616 + c) % 18446744073709551616 + d) % 18446744073709551616 + e) % 18446744073709551616 % 2 ^ W = (a + b + c + d + e) % 2 ^ W := by
  rcases hW with rfl | rfl <;> omega
theorem add2 {W : Nat} (hW : W = 32 ∨ W = 64) (a b : Nat) : (a + b) % 18446744073709551616 % 2 ^ W = (a + b) % 2 ^ W := by
  rcases hW with rfl | rfl <;> omega
theorem not_and {W : Nat} (hW : W = 32 ∨ W = 64) (e g : Nat) (he : e < 2 ^ W) (hg : g < 2 ^ W) : (2 ^ 64 - 1 - e) &&& g = (2 ^ W - 1 - e) &&& g := by
  rcases hW with rfl | rfl
  · apply Nat.eq_of_testBit_eq
    intro i
    have he64 : e < 2 ^ 64 := Nat.lt_trans he (by decide)
    rw [Nat.testBit_and, Nat.testBit_and, show 2 ^ 64 - 1 - e = 2 ^ 64 - (e + 1) from by omega, show 2 ^ 32 - 1 - e = 2 ^ 32 - (e + 1) from by omega, Nat.testBit_two_pow_sub_succ he, Nat.testBit_two_pow_sub_succ he64]
    by_cases hi : i < 32
    · have : i < 64 := by omega
      simp [hi, this]
    · have : g.testBit i = false := Nat.testBit_lt_two_pow (Nat.lt_of_lt_of_le hg (Nat.pow_le_pow_right (by omega) (by omega)))
      simp [this]
  · rfl
theorem wrapS (a b : Nat) : ∃ y : Nat, y = (a + b) % 18446744073709551616 ∧ IntKind.u64.wrap ((a : Int) + (b : Int)) = (y : Int) := ⟨_, rfl, by rw [IntKind.wrap_u64]; omega⟩
theorem M_lt (a : Nat) : a % 18446744073709551616 < 18446744073709551616 := Nat.mod_lt _ (by decide)

set_option maxRecDepth 100000 in
set_option maxHeartbeats 8000000 in
theorem block_any (k : KV) (hW : k.W = 32 ∨ k.W = 64) (hs : k.s.Ok k.W) (ks : List Nat) (hks : ∀ x ∈ ks, x < 2 ^ 64) (n : Nat) (hn : ks.length = n) (hn1 : 16 ≤ n) (hn2 : n ≤ 80)
    (gK capK : Nat) (hK : k.K = .slice (some ⟨gK, 0, none⟩) n capK) (v : V8) (hv : v.Ok k.W) (gs cs : Nat) (l : List Nat) (hl : l.length = 16) (hlb : ∀ x ∈ l, x < 2 ^ k.W) (x : Value) (B : Nat) (w : World)
    (hB : B ≤ w.heap.size) (hgK : gK < B) (hgs : gs < B) (hKc : ∀ j, j < n → w.cell? ⟨gK, j, none⟩ = some (.int .u64 (ks.getD j 0 : Nat)))
    (hsc : ∀ j, j < 8 → w.cell? ⟨gs, j, none⟩ = some (.int .u64 (v.list.getD j 0 : Nat))) (hx : Own w B 92 x 16 (l.map u64v)) (hxn : x ≠ .slice none 0 0) :
    Calls Try.prog 62 #[.agg (kc k), .slice (some ⟨gs, 0, none⟩) 8 cs, x] w fun e w' => ∃ g, e = .returned (.slice (some ⟨g, 0, none⟩) 8 8) ∧ w.heap.size ≤ g ∧ g < w'.heap.size ∧
      (∀ j, j < 8 → w'.cell? ⟨g, j, none⟩ = some (.int .u64 ((blk k.W k.s ks v l).list.getD j 0 : Nat))) ∧ Below B w w' := by
  obtain ⟨b, hb⟩ : ∃ b, b = w.heap.size := ⟨_, rfl⟩
  have hBb : B ≤ b := by omega
  have st0 : Box (BSt w B b k (w.alloc (.cells (kc k) 109))) := ⟨⟨(Below.refl _ _).alloc hB _, by simp; omega, by rw [hb]; exact heap_alloc_new w _⟩⟩
  have OW0 : Box (Own (w.alloc (.cells (kc k) 109)) B 92 x 16 ((sched k.W k.s 0 l).map u64v)) := ⟨hx.alloc _⟩
  have HKC := Box.mk hKc; have HSC := Box.mk hsc; have HBb := Box.mk hBb; have HGK := Box.mk hgK; have HGS := Box.mk hgs; have HXN := Box.mk hxn; have HLB := Box.mk hlb; have HL := Box.mk hl; have HS := Box.mk hs
  have HKS := Box.mk hks; have HN := Box.mk hn; have HV := Box.mk hv; have HEB := Box.mk hb
  have hn1I : (16 : Int) ≤ (n : Int) := by omega
  clear hKc hsc hBb hgK hgs hxn hlb hl hs hx hB hks hn hv
  go_enter Try.func62, Try.ntmps62
  go_upto_region 1 with (fail)
  rw [← hb]
  clear hb
  generalize w.alloc (.cells (kc k) 109) = w0 at st0 OW0 ⊢
  go_wp2_with fail
  go_loopw [2, 7] (fun x i wr => ∃ t : Nat, 16 ≤ t ∧ t ≤ n ∧ i = .int .i64 t ∧ Own wr B 92 x t ((sched k.W k.s (t - 16) l).map u64v) ∧ x ≠ .slice none 0 0 ∧ BSt w B b k wr) (fun _ i _ => n - (intOf i).toNat)
  case atStart => exact ⟨16, by omega, hn1, rfl, OW0.out, HXN.out, st0.out⟩
  case round =>
    clear OW0 st0 HXN
    obtain ⟨t, ht16, htn, rfl, hown, hne, st⟩ := hrel
    obtain ⟨g, cap, rfl, hBg, hcell, hglt, htc⟩ := hown.cells hne
    have OW := Box.mk hown; have ST := Box.mk st
    have hLL := sched_len k.W k.s (t - 16) l
    have hLT := sched_lt k.W k.s (t - 16) l HLB.out
    have hKK : wr.cell? ⟨b, 13, none⟩ = some (.slice (some ⟨gK, 0, none⟩) n capK) := by rw [cell_of_row _ _ _ _ _ _ st.kb, ← hK]; rfl
    have GL := Box.mk hglt
    clear hown hne st hglt htc
    by_cases hlt : t < n
    · have hnx := sched_succ k.W k.s (t - 16) l
      rw [show t - 16 + 1 = t + 1 - 16 by omega] at hnx
      generalize sched k.W k.s (t - 16) l = L at OW hLL hLT hnx hcell
      have hLL : L.length = t := by have := HL.out; omega
      have hltI : (t : Int) < (n : Int) := by omega
      have hl := pw_le hW
      obtain ⟨p2, hp2⟩ : ∃ p, p = t - 2 := ⟨_, rfl⟩
      have hpw2 : IntKind.i64.wrap ((t : Int) - 2) = (p2 : Int) := by rw [IntKind.wrap_i64]; omega
      have hpl2 : (p2 : Int) < (t : Int) := by omega
      have hc2 := hcell p2 _ (map_at L p2 (by omega))
      have ly2 := getD_lt hLT p2
      obtain ⟨p7, hp7⟩ : ∃ p, p = t - 7 := ⟨_, rfl⟩
      have hpw7 : IntKind.i64.wrap ((t : Int) - 7) = (p7 : Int) := by rw [IntKind.wrap_i64]; omega
      have hpl7 : (p7 : Int) < (t : Int) := by omega
      have hc7 := hcell p7 _ (map_at L p7 (by omega))
      have ly7 := getD_lt hLT p7
      obtain ⟨p15, hp15⟩ : ∃ p, p = t - 15 := ⟨_, rfl⟩
      have hpw15 : IntKind.i64.wrap ((t : Int) - 15) = (p15 : Int) := by rw [IntKind.wrap_i64]; omega
      have hpl15 : (p15 : Int) < (t : Int) := by omega
      have hc15 := hcell p15 _ (map_at L p15 (by omega))
      have ly15 := getD_lt hLT p15
      obtain ⟨p16, hp16⟩ : ∃ p, p = t - 16 := ⟨_, rfl⟩
      have hpw16 : IntKind.i64.wrap ((t : Int) - 16) = (p16 : Int) := by rw [IntKind.wrap_i64]; omega
      have hpl16 : (p16 : Int) < (t : Int) := by omega
      have hc16 := hcell p16 _ (map_at L p16 (by omega))
      have ly16 := getD_lt hLT p16
      unfold nextW at hnx
      rw [hLL, ← hp2, ← hp7, ← hp15, ← hp16] at hnx
      generalize L.getD p2 0 = y2 at hc2 ly2 hnx
      generalize L.getD p7 0 = y7 at hc7 ly7 hnx
      generalize L.getD p15 0 = y15 at hc15 ly15 hnx
      generalize L.getD p16 0 = y16 at hc16 ly16 hnx
      have C2 := Box.mk (two_any k hW y2 k.s.d ly2 (Nat.le_of_lt HS.out.d.a.2) (Nat.le_of_lt HS.out.d.b.2) (Nat.le_of_lt HS.out.d.c.2))
      have C15 := Box.mk (two_any k hW y15 k.s.c ly15 (Nat.le_of_lt HS.out.c.a.2) (Nat.le_of_lt HS.out.c.b.2) (Nat.le_of_lt HS.out.c.c.2))
      have HKs := Box.mk HS.out
      generalize sml k.W y2 k.s.d = m2 at C2 hnx
      generalize sml k.W y15 k.s.c = m15 at C15 hnx
      rw [← add4 hW] at hnx
      obtain ⟨a1, ha1, hw1⟩ := wrapS m2 y7
      rw [← ha1] at hnx
      obtain ⟨a2, ha2, hw2⟩ := wrapS a1 m15
      rw [← ha2] at hnx
      obtain ⟨a3, ha3, hw3⟩ := wrapS a2 y16
      rw [← ha3] at hnx
      have L3 : Box (a3 < 18446744073709551616) := ⟨by rw [ha3]; exact M_lt _⟩
      obtain ⟨z, hz⟩ : ∃ z, z = a3 % 2 ^ k.W := ⟨_, rfl⟩
      rw [← hz] at hnx
      have HZ := Box.mk hz; have HNX := Box.mk hnx
      have HC2 := Box.mk hc2; have HC7 := Box.mk hc7; have HC15 := Box.mk hc15; have HC16 := Box.mk hc16; have HP := Box.mk hLL
      clear ha1 ha2 ha3 hz hnx ly2 ly7 ly15 ly16 hl hLL hLT hcell hp2 hp7 hp15 hp16 hc2 hc7 hc15 hc16 hBg
      go_upto_region 4 with (fail)
      have HB : Box (wr.drew.heap[b]? = some (.cells (kc k) 109 (0, 0))) := ⟨ST.out.kb⟩
      refine wp_region_mix 35 [.flo, .flo, .flo, .flo, .flo, .flo, .flo, .flo, .flo, .flo, .cha, .flo, .flo, .flo, .flo, .flo, .flo, .flo, .flo, .flo, .flo, .flo, .flo, .flo, .flo, .cha, .flo, .flo, .flo, .flo, .flo, .flo, .flo, .cha, .cha] (by kernel_rfl) (by kernel_rfl) rfl ?_
      simp only [List.take, List.zip, List.zipWith]
      try go_frame
      refine gm_flo (.slice (some ⟨g, 0, none⟩) t cap) (fun w1 hw1 => ?_) ?_
      case refine_1 =>
        go_simp
      try go_frame
      refine gm_loadK (.tmp 3) rfl b k HB.out (by simp) rfl ?_
      try go_frame
      refine gm_loadK (.tmp 3) rfl b k HB.out (by simp) rfl ?_
      try go_frame
      refine gm_flo (.slice (some ⟨g, 0, none⟩) t cap) (fun w1 hw1 => ?_) ?_
      case refine_1 =>
        go_simp
      try go_frame
      refine gm_flo (.int .i64 (t : Nat)) (fun w1 hw1 => ?_) ?_
      case refine_1 =>
        go_simp
      try go_frame
      refine gm_flo (.int .i64 (p2 : Nat)) (fun w1 hw1 => ?_) ?_
      case refine_1 =>
        go_simp
      try go_frame
      refine gm_flo (.pointer (some ⟨g, p2, none⟩)) (fun w1 hw1 => ?_) ?_
      case refine_1 =>
        go_simp
      try go_frame
      refine gm_flo (.int .u64 (y2 : Nat)) (fun w1 hw1 => ?_) ?_
      case refine_1 =>
        have hc := cellW hw1 GL.out HC2.out
        go_simp
      try go_frame
      refine gm_flo (.pointer (some ⟨b, 10, none⟩)) (fun w1 hw1 => ?_) ?_
      case refine_1 =>
        go_simp
      try go_frame
      refine gm_loadT (.tmp 36) rfl b 10 k k.s.d HB.out (by simp) rfl (kc_D k) ?_
      try go_frame
      refine gm_call [.agg (kc k), .int .u64 (y2 : Nat), .agg (tc k.s.d)] (by kernel_rfl) rfl rfl Stb.tt (fun w1 hw1 hF1 => (C2.out w1).mono ?_)
      rintro e w2 ⟨rfl, hw2⟩
      refine ⟨_, rfl, hw2, ?_⟩
      clear hw1 hF1 w1 hw2 w2
      try go_frame
      refine gm_flo (.slice (some ⟨g, 0, none⟩) t cap) (fun w1 hw1 => ?_) ?_
      case refine_1 =>
        go_simp
      try go_frame
      refine gm_flo (.int .i64 (t : Nat)) (fun w1 hw1 => ?_) ?_
      case refine_1 =>
        go_simp
      try go_frame
      refine gm_flo (.int .i64 (p7 : Nat)) (fun w1 hw1 => ?_) ?_
      case refine_1 =>
        go_simp
      try go_frame
      refine gm_flo (.pointer (some ⟨g, p7, none⟩)) (fun w1 hw1 => ?_) ?_
      case refine_1 =>
        go_simp
      try go_frame
      refine gm_flo (.int .u64 (y7 : Nat)) (fun w1 hw1 => ?_) ?_
      case refine_1 =>
        have hc := cellW hw1 GL.out HC7.out
        go_simp
      try go_frame
      refine gm_flo (.int .u64 (a1 : Nat)) (fun w1 hw1 => ?_) ?_
      case refine_1 =>
        go_simp
      try go_frame
      refine gm_loadK (.tmp 3) rfl b k HB.out (by simp) rfl ?_
      try go_frame
      refine gm_flo (.slice (some ⟨g, 0, none⟩) t cap) (fun w1 hw1 => ?_) ?_
      case refine_1 =>
        go_simp
      try go_frame
      refine gm_flo (.int .i64 (t : Nat)) (fun w1 hw1 => ?_) ?_
      case refine_1 =>
        go_simp
      try go_frame
      refine gm_flo (.int .i64 (p15 : Nat)) (fun w1 hw1 => ?_) ?_
      case refine_1 =>
        go_simp
      try go_frame
      refine gm_flo (.pointer (some ⟨g, p15, none⟩)) (fun w1 hw1 => ?_) ?_
      case refine_1 =>
        go_simp
      try go_frame
      refine gm_flo (.int .u64 (y15 : Nat)) (fun w1 hw1 => ?_) ?_
      case refine_1 =>
        have hc := cellW hw1 GL.out HC15.out
        go_simp
      try go_frame
      refine gm_flo (.pointer (some ⟨b, 7, none⟩)) (fun w1 hw1 => ?_) ?_
      case refine_1 =>
        go_simp
      try go_frame
      refine gm_loadT (.tmp 51) rfl b 7 k k.s.c HB.out (by simp) rfl (kc_C k) ?_
      try go_frame
      refine gm_call [.agg (kc k), .int .u64 (y15 : Nat), .agg (tc k.s.c)] (by kernel_rfl) rfl rfl Stb.tt (fun w1 hw1 hF1 => (C15.out w1).mono ?_)
      rintro e w2 ⟨rfl, hw2⟩
      refine ⟨_, rfl, hw2, ?_⟩
      clear hw1 hF1 w1 hw2 w2
      try go_frame
      refine gm_flo (.int .u64 (a2 : Nat)) (fun w1 hw1 => ?_) ?_
      case refine_1 =>
        go_simp
      try go_frame
      refine gm_flo (.slice (some ⟨g, 0, none⟩) t cap) (fun w1 hw1 => ?_) ?_
      case refine_1 =>
        go_simp
      try go_frame
      refine gm_flo (.int .i64 (t : Nat)) (fun w1 hw1 => ?_) ?_
      case refine_1 =>
        go_simp
      try go_frame
      refine gm_flo (.int .i64 (p16 : Nat)) (fun w1 hw1 => ?_) ?_
      case refine_1 =>
        go_simp
      try go_frame
      refine gm_flo (.pointer (some ⟨g, p16, none⟩)) (fun w1 hw1 => ?_) ?_
      case refine_1 =>
        go_simp
      try go_frame
      refine gm_flo (.int .u64 (y16 : Nat)) (fun w1 hw1 => ?_) ?_
      case refine_1 =>
        have hc := cellW hw1 GL.out HC16.out
        go_simp
      try go_frame
      refine gm_flo (.int .u64 (a3 : Nat)) (fun w1 hw1 => ?_) ?_
      case refine_1 =>
        go_simp
      try go_frame
      refine gm_call [.agg (kc k), .int .u64 (a3 : Nat)] (by kernel_rfl) rfl rfl Stb.tt (fun w1 hw1 hF1 => (word_any k hW a3 L3.out w1).mono ?_)
      rintro e w2 ⟨rfl, hw2⟩
      refine ⟨_, rfl, hw2, ?_⟩
      clear hw1 hF1 w1 hw2 w2
      try go_frame
      rw [← HZ.out]
      refine gm_one (e := 92) (.tmp 61) rfl (.int .u64 (z : Nat)) rfl (fun _ => by kernel_rfl) Stb.tt (fun b1 hb1 => ?_)
      try go_frame
      refine gm_nil ?_
      intro w9 hw9 hF9
      simp only [List.drop]
      try go_frame
      have ST9 := ST.out.drew.gr hw9
      at_builtin
      refine wpList_app1 (w0 := w) rfl (.tmp 28) (.tmp 62) 107 rfl B 92 (.int .u64 0) 8 Try.underlying107 (by kernel_rfl) rfl (.slice (some ⟨g, 0, none⟩) t cap) t (L.map u64v) rfl (OW.out.drew.below hw9.below) ST9.bel ST9.sz b1 (.int .u64 (z : Nat)) rfl ((cell_of_row _ _ _ _ _ _ hF9.2).trans rfl) rfl (by omega) (by omega) ?_
      intro v' w' o' b' s' gr' ne'
      have STN := Box.mk (ST9.grown (OW.out.drew.below hw9.below) gr' b' s')
      have ON : Box (Own w' B 92 v' (t + 1) ((sched k.W k.s (t + 1 - 16) l).map u64v)) := ⟨by rw [HNX.out, List.map_append]; exact o'⟩
      have NE := Box.mk ne'
      clear ST9 o' b' s' gr' ne' hF9 hw9
      go_wp2_with fail
      exact ⟨⟨t + 1, by omega, by omega, by go_num, ON.out, NE.out, STN.out⟩, by simp [intOf]; omega⟩
    · obtain rfl : t = n := by omega
      clear hlt ht16 htn
      generalize hLLe : sched k.W k.s (t - 16) l = L at OW hLL hLT hcell
      have hLL : L.length = t := by have := HL.out; omega
      have sc0 : wr.cell? ⟨gs, 0, none⟩ = some (.int .u64 (v.a : Nat)) := (ST.out.bel.cell (p := ⟨gs, 0, none⟩) HGS.out).trans (HSC.out 0 (by decide))
      have sc1 : wr.cell? ⟨gs, 1, none⟩ = some (.int .u64 (v.b : Nat)) := (ST.out.bel.cell (p := ⟨gs, 1, none⟩) HGS.out).trans (HSC.out 1 (by decide))
      have sc2 : wr.cell? ⟨gs, 2, none⟩ = some (.int .u64 (v.c : Nat)) := (ST.out.bel.cell (p := ⟨gs, 2, none⟩) HGS.out).trans (HSC.out 2 (by decide))
      have sc3 : wr.cell? ⟨gs, 3, none⟩ = some (.int .u64 (v.d : Nat)) := (ST.out.bel.cell (p := ⟨gs, 3, none⟩) HGS.out).trans (HSC.out 3 (by decide))
      have sc4 : wr.cell? ⟨gs, 4, none⟩ = some (.int .u64 (v.e : Nat)) := (ST.out.bel.cell (p := ⟨gs, 4, none⟩) HGS.out).trans (HSC.out 4 (by decide))
      have sc5 : wr.cell? ⟨gs, 5, none⟩ = some (.int .u64 (v.f : Nat)) := (ST.out.bel.cell (p := ⟨gs, 5, none⟩) HGS.out).trans (HSC.out 5 (by decide))
      have sc6 : wr.cell? ⟨gs, 6, none⟩ = some (.int .u64 (v.g : Nat)) := (ST.out.bel.cell (p := ⟨gs, 6, none⟩) HGS.out).trans (HSC.out 6 (by decide))
      have sc7 : wr.cell? ⟨gs, 7, none⟩ = some (.int .u64 (v.h : Nat)) := (ST.out.bel.cell (p := ⟨gs, 7, none⟩) HGS.out).trans (HSC.out 7 (by decide))
      have HXC : Box (∀ j, j < t → wr.cell? ⟨g, j, none⟩ = some (.int .u64 (L.getD j 0 : Nat))) := ⟨fun j hj => hcell j _ (map_at L j (by omega))⟩
      have HKC2 : Box (∀ j, j < t → wr.cell? ⟨gK, j, none⟩ = some (.int .u64 (ks.getD j 0 : Nat))) := ⟨fun j hj => (ST.out.bel.cell (p := ⟨gK, j, none⟩) HGK.out).trans (HKC.out j hj)⟩
      have HSC2 : Box (∀ j, j < 8 → wr.cell? ⟨gs, j, none⟩ = some (.int .u64 (v.list.getD j 0 : Nat))) := ⟨fun j hj => (ST.out.bel.cell (p := ⟨gs, j, none⟩) HGS.out).trans (HSC.out j hj)⟩
      have HLT := Box.mk hLT; have HLL := Box.mk hLL; have HLE := Box.mk hLLe; have HBG := Box.mk hBg
      have GKL : Box (gK < wr.heap.size) := ⟨Nat.lt_of_lt_of_le HGK.out ST.out.sz⟩
      have GSL : Box (gs < wr.heap.size) := ⟨Nat.lt_of_lt_of_le HGS.out ST.out.sz⟩
      have HSCw := Box.mk HSC.out
      clear hLT hLL hLLe hBg hcell OW HKC HSC
      go_upto_region 5 with (fail)
      go_quiet (fail)
      generalize nq = mq
      go_upto_region 6 with (fail)
      go_quiet (fail)
      clear sc0 sc1 sc2 sc3 sc4 sc5 sc6 sc7 hKK
      go_wp2_with fail
      obtain ⟨wo, rfl⟩ : ∃ wo : World, wo = wr := ⟨_, rfl⟩
      have GR0 : Box (Gr wo ((wo.drewN mq).drewN nq)) := ⟨(fun h => (⟨h.os, h.tape, h.output, h.size, fun i hi => h.block i hi (by simp)⟩ : Below wo.heap.size wo _)) (((Upd.refl [] wo).drewN mq).trans ((Upd.refl [] _).drewN nq))⟩
      go_loopw [8, 9, 10, 11, 12, 13, 14, 15, 16] (fun xa xb xc xd xe xf xg xh i wx => ∃ j : Nat, j ≤ t ∧ i = .int .i64 j ∧ ∃ u : V8, u = rnds k.W k.s (ks.take j) (L.take j) v ∧ u.Ok k.W ∧ xa = .int .u64 (u.a : Nat) ∧ xb = .int .u64 (u.b : Nat) ∧ xc = .int .u64 (u.c : Nat) ∧ xd = .int .u64 (u.d : Nat) ∧ xe = .int .u64 (u.e : Nat) ∧ xf = .int .u64 (u.f : Nat) ∧ xg = .int .u64 (u.g : Nat) ∧ xh = .int .u64 (u.h : Nat) ∧ Gr wo wx) (fun _ _ _ _ _ _ _ _ i _ => t - (intOf i).toNat)
      case atStart => exact ⟨0, by omega, rfl, v, by simp [rnds], HV.out, rfl, rfl, rfl, rfl, rfl, rfl, rfl, rfl, GR0.out⟩
      case round =>
        clear GR0
        obtain ⟨wx, rfl⟩ : ∃ wx : World, wx = wr := ⟨_, rfl⟩
        obtain ⟨j, hj, rfl, u, hu, hok, rfl, rfl, rfl, rfl, rfl, rfl, rfl, rfl, gr⟩ := hrel
        have GR := Box.mk gr
        have HB : Box (wx.heap[b]? = some (.cells (kc k) 109 (0, 0))) := ⟨gr.block ST.out.kb⟩
        have hKK : wx.cell? ⟨b, 13, none⟩ = some (.slice (some ⟨gK, 0, none⟩) t capK) := by rw [cell_of_row _ _ _ _ _ _ HB.out, ← hK]; rfl
        have HOK := Box.mk hok; have HU := Box.mk hu
        clear gr hok hu
        by_cases hlt : j < t
        · have hstep := rnds_step k.W k.s ks L v j (by have := HN.out; omega) (by have := HLL.out; omega)
          rw [← HU.out] at hstep
          have hxc := HXC.out j hlt; have hkc := HKC2.out j hlt
          have hkl : ks.getD j 0 < 2 ^ 64 := getD_lt HKS.out j
          generalize ks.getD j 0 = kk at hkc hkl hstep
          generalize L.getD j 0 = xx at hxc hstep
          have hltI : (j : Int) < (t : Int) := by omega
          have hl := pw_le hW
          have ok := HOK.out
          have o1 : u.a < 18446744073709551616 := Nat.lt_of_lt_of_le ok.a hl
          have o2 : u.b < 18446744073709551616 := Nat.lt_of_lt_of_le ok.b hl
          have o3 : u.c < 18446744073709551616 := Nat.lt_of_lt_of_le ok.c hl
          have o5 : u.e < 18446744073709551616 := Nat.lt_of_lt_of_le ok.e hl
          have o6 : u.f < 18446744073709551616 := Nat.lt_of_lt_of_le ok.f hl
          have o7 : u.g < 18446744073709551616 := Nat.lt_of_lt_of_le ok.g hl
          have CE := Box.mk (three_any k hW u.e k.s.b ok.e (Nat.le_of_lt HS.out.b.a.2) (Nat.le_of_lt HS.out.b.b.2) (Nat.le_of_lt HS.out.b.c.2))
          have CA := Box.mk (three_any k hW u.a k.s.a ok.a (Nat.le_of_lt HS.out.a.a.2) (Nat.le_of_lt HS.out.a.b.2) (Nat.le_of_lt HS.out.a.c.2))
          obtain ⟨O, hO⟩ : ∃ O, O = one k.W k.s u kk xx := ⟨_, rfl⟩
          obtain ⟨T2, hT2⟩ : ∃ O, O = two k.W k.s u := ⟨_, rfl⟩
          have hR : round k.W k.s u kk xx = ⟨(O + T2) % 2 ^ k.W, u.a, u.b, u.c, (u.d + O) % 2 ^ k.W, u.e, u.f, u.g⟩ := by rw [hO, hT2]; rfl
          rw [hR] at hstep
          have hok2 := round_ok k.W k.s u kk xx ok
          rw [hR] at hok2
          unfold one at hO; unfold two at hT2
          generalize Sha.big k.W u.e k.s.b = m1 at CE hO
          generalize Sha.big k.W u.a k.s.a = m3 at CA hT2
          rw [← not_and hW u.e u.g ok.e ok.g, ← add5 hW] at hO
          rw [← add2 hW] at hT2
          rw [← add2 hW O T2, ← add2 hW u.d O] at hstep hok2
          have ba1 := bits64_and u.e u.f o5 o6
          have bn := bits64_not u.e o5
          have hne : 2 ^ 64 - 1 - u.e < 18446744073709551616 := by omega
          obtain ⟨ne, hne2⟩ : ∃ ne, ne = 2 ^ 64 - 1 - u.e := ⟨_, rfl⟩
          rw [← hne2] at bn hO hne
          have bn2 : bits BinOp.xor IntKind.u64 (if IntKind.u64.signed = true then -1 else IntKind.u64.max) (u.e : Int) = (ne : Int) := bn
          have ba2 := bits64_and ne u.g hne o7
          have p1l : u.e &&& u.f < 18446744073709551616 := Nat.and_lt_two_pow (n := 64) _ o6
          have p2l : ne &&& u.g < 18446744073709551616 := Nat.and_lt_two_pow (n := 64) _ o7
          obtain ⟨p1, hp1⟩ : ∃ p, p = u.e &&& u.f := ⟨_, rfl⟩
          obtain ⟨p2, hp2⟩ : ∃ p, p = ne &&& u.g := ⟨_, rfl⟩
          rw [← hp1] at ba1 p1l hO
          rw [← hp2] at ba2 p2l hO
          have bx1 := u64_xor_nat p1 p2 p1l p2l
          obtain ⟨p3, hp3⟩ : ∃ p, p = p1 ^^^ p2 := ⟨_, rfl⟩
          rw [← hp3] at bx1 hO
          obtain ⟨q1, hq1, hw1⟩ := wrapS u.h m1
          rw [← hq1] at hO
          obtain ⟨q2, hq2, hw2⟩ := wrapS q1 p3
          rw [← hq2] at hO
          obtain ⟨q3, hq3, hw3⟩ := wrapS q2 kk
          rw [← hq3] at hO
          obtain ⟨q4, hq4, hw4⟩ := wrapS q3 xx
          rw [← hq4] at hO
          have L4 : Box (q4 < 18446744073709551616) := ⟨by rw [hq4]; exact M_lt _⟩
          have bb1 := bits64_and u.a u.b o1 o2
          have bb2 := bits64_and u.a u.c o1 o3
          have bb3 := bits64_and u.b u.c o2 o3
          have r1l : u.a &&& u.b < 18446744073709551616 := Nat.and_lt_two_pow (n := 64) _ o2
          have r2l : u.a &&& u.c < 18446744073709551616 := Nat.and_lt_two_pow (n := 64) _ o3
          have r4l : u.b &&& u.c < 18446744073709551616 := Nat.and_lt_two_pow (n := 64) _ o3
          obtain ⟨r1, hr1⟩ : ∃ p, p = u.a &&& u.b := ⟨_, rfl⟩
          obtain ⟨r2, hr2⟩ : ∃ p, p = u.a &&& u.c := ⟨_, rfl⟩
          obtain ⟨r4, hr4⟩ : ∃ p, p = u.b &&& u.c := ⟨_, rfl⟩
          rw [← hr1] at bb1 r1l hT2
          rw [← hr2] at bb2 r2l hT2
          rw [← hr4] at bb3 r4l hT2
          have bx2 := u64_xor_nat r1 r2 r1l r2l
          have r3l : r1 ^^^ r2 < 18446744073709551616 := Nat.xor_lt_two_pow (n := 64) r1l r2l
          obtain ⟨r3, hr3⟩ : ∃ p, p = r1 ^^^ r2 := ⟨_, rfl⟩
          rw [← hr3] at bx2 r3l hT2
          have bx3 := u64_xor_nat r3 r4 r3l r4l
          obtain ⟨r5, hr5⟩ : ∃ p, p = r3 ^^^ r4 := ⟨_, rfl⟩
          rw [← hr5] at bx3 hT2
          obtain ⟨q5, hq5, hw5⟩ := wrapS m3 r5
          rw [← hq5] at hT2
          have L5 : Box (q5 < 18446744073709551616) := ⟨by rw [hq5]; exact M_lt _⟩
          obtain ⟨q6, hq6, hw6⟩ := wrapS u.d O
          obtain ⟨q7, hq7, hw7⟩ := wrapS O T2
          rw [← hq6, ← hq7] at hstep hok2
          have L6 : Box (q6 < 18446744073709551616) := ⟨by rw [hq6]; exact M_lt _⟩
          have L7 : Box (q7 < 18446744073709551616) := ⟨by rw [hq7]; exact M_lt _⟩
          obtain ⟨z6, hz6⟩ : ∃ z, z = q6 % 2 ^ k.W := ⟨_, rfl⟩
          obtain ⟨z7, hz7⟩ : ∃ z, z = q7 % 2 ^ k.W := ⟨_, rfl⟩
          rw [← hz6, ← hz7] at hstep hok2
          have HO := Box.mk hO; have HT2 := Box.mk hT2; have HZ6 := Box.mk hz6; have HZ7 := Box.mk hz7; have HST := Box.mk hstep; have HOK2 := Box.mk hok2; have HXx := Box.mk hxc; have HKx := Box.mk hkc
          clear hO hT2 hR hstep hok2 hxc hkc hkl hl ok o1 o2 o3 o5 o6 o7 hne hne2 p1l p2l hp1 hp2 hp3 hq1 hq2 hq3 hq4 r1l r2l r3l r4l hr1 hr2 hr3 hr4 hr5 hq5 hq6 hq7 hz6 hz7 HU HOK
          go_upto_region 10 with (fail)
          have HB2 : Box (wx.drew.heap[b]? = some (.cells (kc k) 109 (0, 0))) := ⟨HB.out⟩
          have GRd : Box (Gr wo wx.drew) := ⟨GR.out.trans (show Gr wx wx.drew from (Below.refl _ _).drew)⟩
          clear HB GR
          refine wp_region_mix 29 [.flo, .flo, .flo, .flo, .flo, .flo, .cha, .flo, .flo, .flo, .flo, .flo, .flo, .flo, .flo, .flo, .flo, .flo, .flo, .flo, .flo, .flo, .flo, .flo, .flo, .flo, .flo, .flo, .cha] (by kernel_rfl) (by kernel_rfl) rfl ?_
          simp only [List.take, List.zip, List.zipWith]
          try go_frame
          refine gm_loadK (.tmp 3) rfl b k HB2.out (by simp) rfl ?_
          try go_frame
          refine gm_flo (.int .u64 (u.h : Nat)) (fun w1 hw1 => ?_) ?_
          case refine_1 =>
            go_simp
          try go_frame
          refine gm_loadK (.tmp 3) rfl b k HB2.out (by simp) rfl ?_
          try go_frame
          refine gm_flo (.int .u64 (u.e : Nat)) (fun w1 hw1 => ?_) ?_
          case refine_1 =>
            go_simp
          try go_frame
          refine gm_flo (.pointer (some ⟨b, 4, none⟩)) (fun w1 hw1 => ?_) ?_
          case refine_1 =>
            go_simp
          try go_frame
          refine gm_loadT (.tmp 99) rfl b 4 k k.s.b HB2.out (by simp) rfl (kc_B k) ?_
          try go_frame
          refine gm_call [.agg (kc k), .int .u64 (u.e : Nat), .agg (tc k.s.b)] (by kernel_rfl) rfl rfl Stb.tt (fun w1 hw1 hF1 => (CE.out w1).mono ?_)
          rintro e w2 ⟨rfl, hw2⟩
          refine ⟨_, rfl, hw2, ?_⟩
          clear hw1 hF1 w1 hw2 w2
          try go_frame
          refine gm_flo (.int .u64 (q1 : Nat)) (fun w1 hw1 => ?_) ?_
          case refine_1 =>
            go_simp
          try go_frame
          refine gm_flo (.int .u64 (u.e : Nat)) (fun w1 hw1 => ?_) ?_
          case refine_1 =>
            go_simp
          try go_frame
          refine gm_flo (.int .u64 (u.f : Nat)) (fun w1 hw1 => ?_) ?_
          case refine_1 =>
            go_simp
          try go_frame
          refine gm_flo (.int .u64 (p1 : Nat)) (fun w1 hw1 => ?_) ?_
          case refine_1 =>
            go_simp
          try go_frame
          refine gm_flo (.int .u64 (u.e : Nat)) (fun w1 hw1 => ?_) ?_
          case refine_1 =>
            go_simp
          try go_frame
          refine gm_flo (.int .u64 (ne : Nat)) (fun w1 hw1 => ?_) ?_
          case refine_1 =>
            go_simp
          try go_frame
          refine gm_flo (.int .u64 (u.g : Nat)) (fun w1 hw1 => ?_) ?_
          case refine_1 =>
            go_simp
          try go_frame
          refine gm_flo (.int .u64 (p2 : Nat)) (fun w1 hw1 => ?_) ?_
          case refine_1 =>
            go_simp
          try go_frame
          refine gm_flo (.int .u64 (p3 : Nat)) (fun w1 hw1 => ?_) ?_
          case refine_1 =>
            go_simp
          try go_frame
          refine gm_flo (.int .u64 (q2 : Nat)) (fun w1 hw1 => ?_) ?_
          case refine_1 =>
            go_simp
          try go_frame
          refine gm_flo (.pointer (some ⟨b, 13, none⟩)) (fun w1 hw1 => ?_) ?_
          case refine_1 =>
            go_simp
          try go_frame
          refine gm_flo (.slice (some ⟨gK, 0, none⟩) t capK) (fun w1 hw1 => ?_) ?_
          case refine_1 =>
            have hc : w1.cell? ⟨b, 13, none⟩ = some (.slice (some ⟨gK, 0, none⟩) t capK) := (cellG hw1 HB2.out (by simp) 13).trans (by rw [← hK]; rfl)
            go_simp
          try go_frame
          refine gm_flo (.int .i64 (j : Nat)) (fun w1 hw1 => ?_) ?_
          case refine_1 =>
            go_simp
          try go_frame
          refine gm_flo (.pointer (some ⟨gK, j, none⟩)) (fun w1 hw1 => ?_) ?_
          case refine_1 =>
            go_simp
          try go_frame
          refine gm_flo (.int .u64 (kk : Nat)) (fun w1 hw1 => ?_) ?_
          case refine_1 =>
            have hc := cellW (GRd.out.toS []  |>.trans hw1) GKL.out HKx.out
            go_simp
          try go_frame
          refine gm_flo (.int .u64 (q3 : Nat)) (fun w1 hw1 => ?_) ?_
          case refine_1 =>
            go_simp
          try go_frame
          refine gm_flo (.slice (some ⟨g, 0, none⟩) t cap) (fun w1 hw1 => ?_) ?_
          case refine_1 =>
            go_simp
          try go_frame
          refine gm_flo (.int .i64 (j : Nat)) (fun w1 hw1 => ?_) ?_
          case refine_1 =>
            go_simp
          try go_frame
          refine gm_flo (.pointer (some ⟨g, j, none⟩)) (fun w1 hw1 => ?_) ?_
          case refine_1 =>
            go_simp
          try go_frame
          refine gm_flo (.int .u64 (xx : Nat)) (fun w1 hw1 => ?_) ?_
          case refine_1 =>
            have hc := cellW (GRd.out.toS [] |>.trans hw1) GL.out HXx.out
            go_simp
          try go_frame
          refine gm_flo (.int .u64 (q4 : Nat)) (fun w1 hw1 => ?_) ?_
          case refine_1 =>
            go_simp
          try go_frame
          refine gm_call [.agg (kc k), .int .u64 (q4 : Nat)] (by kernel_rfl) rfl rfl Stb.tt (fun w1 hw1 hF1 => (word_any k hW q4 L4.out w1).mono ?_)
          rintro e w2 ⟨rfl, hw2⟩
          refine ⟨_, rfl, hw2, ?_⟩
          clear hw1 hF1 w1 hw2 w2
          try go_frame
          rw [← HO.out]
          refine gm_nil ?_
          intro w3 hw9 hF9
          simp only [List.drop]
          try go_frame
          have HB3 : Box (w3.drew.heap[b]? = some (.cells (kc k) 109 (0, 0))) := ⟨hw9.block HB2.out⟩
          have GR3 : Box (Gr wo w3.drew) := ⟨(GRd.out.trans hw9).trans (show Gr w3 w3.drew from (Below.refl _ _).drew)⟩
          clear HB2 GRd hw9 hF9
          go_upto_region 11 with (fail)
          refine wp_region_mix 19 [.flo, .flo, .flo, .flo, .flo, .cha, .flo, .flo, .flo, .flo, .flo, .flo, .flo, .flo, .flo, .flo, .flo, .flo, .cha] (by kernel_rfl) (by kernel_rfl) rfl ?_
          simp only [List.take, List.zip, List.zipWith]
          try go_frame
          refine gm_loadK (.tmp 3) rfl b k HB3.out (by simp) rfl ?_
          try go_frame
          refine gm_loadK (.tmp 3) rfl b k HB3.out (by simp) rfl ?_
          try go_frame
          refine gm_flo (.int .u64 (u.a : Nat)) (fun w1 hw1 => ?_) ?_
          case refine_1 =>
            go_simp
          try go_frame
          refine gm_flo (.pointer (some ⟨b, 1, none⟩)) (fun w1 hw1 => ?_) ?_
          case refine_1 =>
            go_simp
          try go_frame
          refine gm_loadT (.tmp 127) rfl b 1 k k.s.a HB3.out (by simp) rfl (kc_A k) ?_
          try go_frame
          refine gm_call [.agg (kc k), .int .u64 (u.a : Nat), .agg (tc k.s.a)] (by kernel_rfl) rfl rfl Stb.tt (fun w1 hw1 hF1 => (CA.out w1).mono ?_)
          rintro e w2 ⟨rfl, hw2⟩
          refine ⟨_, rfl, hw2, ?_⟩
          clear hw1 hF1 w1 hw2 w2
          try go_frame
          refine gm_flo (.int .u64 (u.a : Nat)) (fun w1 hw1 => ?_) ?_
          case refine_1 =>
            go_simp
          try go_frame
          refine gm_flo (.int .u64 (u.b : Nat)) (fun w1 hw1 => ?_) ?_
          case refine_1 =>
            go_simp
          try go_frame
          refine gm_flo (.int .u64 (r1 : Nat)) (fun w1 hw1 => ?_) ?_
          case refine_1 =>
            go_simp
          try go_frame
          refine gm_flo (.int .u64 (u.a : Nat)) (fun w1 hw1 => ?_) ?_
          case refine_1 =>
            go_simp
          try go_frame
          refine gm_flo (.int .u64 (u.c : Nat)) (fun w1 hw1 => ?_) ?_
          case refine_1 =>
            go_simp
          try go_frame
          refine gm_flo (.int .u64 (r2 : Nat)) (fun w1 hw1 => ?_) ?_
          case refine_1 =>
            go_simp
          try go_frame
          refine gm_flo (.int .u64 (r3 : Nat)) (fun w1 hw1 => ?_) ?_
          case refine_1 =>
            go_simp
          try go_frame
          refine gm_flo (.int .u64 (u.b : Nat)) (fun w1 hw1 => ?_) ?_
          case refine_1 =>
            go_simp
          try go_frame
          refine gm_flo (.int .u64 (u.c : Nat)) (fun w1 hw1 => ?_) ?_
          case refine_1 =>
            go_simp
          try go_frame
          refine gm_flo (.int .u64 (r4 : Nat)) (fun w1 hw1 => ?_) ?_
          case refine_1 =>
            go_simp
          try go_frame
          refine gm_flo (.int .u64 (r5 : Nat)) (fun w1 hw1 => ?_) ?_
          case refine_1 =>
            go_simp
          try go_frame
          refine gm_flo (.int .u64 (q5 : Nat)) (fun w1 hw1 => ?_) ?_
          case refine_1 =>
            go_simp
          try go_frame
          refine gm_call [.agg (kc k), .int .u64 (q5 : Nat)] (by kernel_rfl) rfl rfl Stb.tt (fun w1 hw1 hF1 => (word_any k hW q5 L5.out w1).mono ?_)
          rintro e w2 ⟨rfl, hw2⟩
          refine ⟨_, rfl, hw2, ?_⟩
          clear hw1 hF1 w1 hw2 w2
          try go_frame
          rw [← HT2.out]
          refine gm_nil ?_
          intro w4 hw9 hF9
          simp only [List.drop]
          try go_frame
          have HB4 : Box (w4.heap[b]? = some (.cells (kc k) 109 (0, 0))) := ⟨hw9.block HB3.out⟩
          have GR4 : Box (Gr wo w4) := ⟨GR3.out.trans hw9⟩
          clear HB3 GR3 hw9 hF9
          go_upto_region 15 with (fail)
          refine wp_region_seq 5 [.flo, .flo, .flo, .flo, .cha] (by rfl) rfl (by decide) ?_
          simp only [List.take, List.zip, List.zipWith]
          try go_frame
          refine gm_loadK (.tmp 3) rfl b k HB4.out (by simp) rfl ?_
          try go_frame
          refine gm_flo (.int .u64 (u.d : Nat)) (fun w1 hw1 => ?_) ?_
          case refine_1 =>
            go_simp
          try go_frame
          refine gm_flo (.int .u64 (O : Nat)) (fun w1 hw1 => ?_) ?_
          case refine_1 =>
            go_simp
          try go_frame
          refine gm_flo (.int .u64 (q6 : Nat)) (fun w1 hw1 => ?_) ?_
          case refine_1 =>
            go_simp
          try go_frame
          refine gm_call [.agg (kc k), .int .u64 (q6 : Nat)] (by kernel_rfl) rfl rfl Stb.tt (fun w1 hw1 hF1 => (word_any k hW q6 L6.out w1).mono ?_)
          rintro e w2 ⟨rfl, hw2⟩
          refine ⟨_, rfl, hw2, ?_⟩
          clear hw1 hF1 w1 hw2 w2
          try go_frame
          rw [← HZ6.out]
          refine gm_nil ?_
          intro w5 hw9 hF9
          simp only [List.drop]
          try go_frame
          have HB5 : Box (w5.heap[b]? = some (.cells (kc k) 109 (0, 0))) := ⟨hw9.block HB4.out⟩
          have GR5 : Box (Gr wo w5) := ⟨GR4.out.trans hw9⟩
          clear HB4 GR4 hw9 hF9
          go_upto_region 19 with (fail)
          refine wp_region_seq 5 [.flo, .flo, .flo, .flo, .cha] (by rfl) rfl (by decide) ?_
          simp only [List.take, List.zip, List.zipWith]
          try go_frame
          refine gm_loadK (.tmp 3) rfl b k HB5.out (by simp) rfl ?_
          try go_frame
          refine gm_flo (.int .u64 (O : Nat)) (fun w1 hw1 => ?_) ?_
          case refine_1 =>
            go_simp
          try go_frame
          refine gm_flo (.int .u64 (T2 : Nat)) (fun w1 hw1 => ?_) ?_
          case refine_1 =>
            go_simp
          try go_frame
          refine gm_flo (.int .u64 (q7 : Nat)) (fun w1 hw1 => ?_) ?_
          case refine_1 =>
            go_simp
          try go_frame
          refine gm_call [.agg (kc k), .int .u64 (q7 : Nat)] (by kernel_rfl) rfl rfl Stb.tt (fun w1 hw1 hF1 => (word_any k hW q7 L7.out w1).mono ?_)
          rintro e w2 ⟨rfl, hw2⟩
          refine ⟨_, rfl, hw2, ?_⟩
          clear hw1 hF1 w1 hw2 w2
          try go_frame
          rw [← HZ7.out]
          refine gm_nil ?_
          intro w6 hw9 hF9
          simp only [List.drop]
          try go_frame
          have GR6 : Box (Gr wo w6) := ⟨GR5.out.trans hw9⟩
          clear HB5 GR5 hw9 hF9
          go_wp2_with fail
          exact ⟨⟨j + 1, by omega, by go_num, ⟨z7, u.a, u.b, u.c, z6, u.e, u.f, u.g⟩, HST.out.symm, HOK2.out, rfl, rfl, rfl, rfl, rfl, rfl, rfl, rfl, GR6.out⟩, by simp [intOf]; omega⟩
        · obtain rfl : j = t := by omega
          have hend : u = rnds k.W k.s ks L v := by rw [HU.out, List.take_of_length_le (by have := HN.out; omega), List.take_of_length_le (by have := HLL.out; omega)]
          have hblk : blk k.W k.s ks v l = plus k.W u v := by unfold blk; rw [HN.out, HL.out, HLE.out, ← hend, plus_comm]
          have HBLK := Box.mk hblk
          clear hlt hj hend hblk HU
          go_upto_region 21 with (fail)
          obtain ⟨b8, hb8⟩ : ∃ b8, b8 = wx.heap.size := ⟨_, rfl⟩
          have R0 : Box ((wx.alloc (.cells (v8c64 (mixV k.W 0 u v)) 92)).heap[b8]? = some (.cells (v8c64 (mixV k.W 0 u v)) 92 (0, 0))) := ⟨by rw [hb8]; exact heap_alloc_new wx _⟩
          have ST8 : Box (BSt w B b k (wx.alloc (.cells (v8c64 (mixV k.W 0 u v)) 92))) := ⟨(ST.out.gr GR.out).gr (Gr.alloc _ _)⟩
          have GR8 : Box (Gr wo (wx.alloc (.cells (v8c64 (mixV k.W 0 u v)) 92))) := ⟨GR.out.trans (Gr.alloc _ _)⟩
          have hwb : w.heap.size ≤ wo.heap.size := ST.out.bel.size
          have HWB : Box (w.heap.size ≤ b8) := ⟨Nat.le_trans hwb (by rw [hb8]; exact GR.out.size)⟩
          have HGB : Box (gs ≠ b8) := ⟨by have := HGS.out; have := HBb.out; have := HEB.out; have := HWB.out; omega⟩
          have HBB : Box (b ≠ b8) := ⟨Nat.ne_of_lt (by rw [hb8]; exact (Array.getElem?_eq_some_iff.1 HB.out).1)⟩
          have HBs : Box (B ≤ b8) := ⟨by have := HBb.out; have := HEB.out; have := HWB.out; omega⟩
          rw [← hb8]
          clear hb8 hwb
          rw [show #[Value.int IntKind.u64 (u.a : Nat), .int .u64 (u.b : Nat), .int .u64 (u.c : Nat), .int .u64 (u.d : Nat), .int .u64 (u.e : Nat), .int .u64 (u.f : Nat), .int .u64 (u.g : Nat), .int .u64 (u.h : Nat)] = v8c64 (mixV k.W 0 u v) from rfl]
          generalize wx.alloc (.cells (v8c64 (mixV k.W 0 u v)) 92) = w8 at R0 ST8 GR8 ⊢
          go_wp2_with fail
          go_loopw [20] (fun i wy => ∃ q : Nat, q ≤ 8 ∧ i = .int .i64 q ∧ wy.heap[b8]? = some (.cells (v8c64 (mixV k.W q u v)) 92 (0, 0)) ∧ BSt w B b k wy) (fun i _ => 8 - (intOf i).toNat)
          case atStart => exact ⟨0, by omega, rfl, R0.out, ST8.out⟩
          case round =>
            clear R0 ST8 GR8 GR HB ST
            obtain ⟨wy, rfl⟩ : ∃ wy : World, wy = wr := ⟨_, rfl⟩
            obtain ⟨q, hq, rfl, row, st⟩ := hrel
            have ROW := Box.mk row; have ST := Box.mk st
            clear row st
            by_cases hlt : q < 8
            · have hqI : (q : Int) < 8 := by omega
              have c1 : wy.cell? ⟨b8, q, none⟩ = some (.int .u64 (u.list.getD q 0 : Nat)) := by
                rw [cell_of_row _ _ _ _ _ _ ROW.out, v8c64_cell _ hlt, mixV_at _ _ hlt]
              have c2 : wy.cell? ⟨gs, q, none⟩ = some (.int .u64 (v.list.getD q 0 : Nat)) := (ST.out.bel.cell (p := ⟨gs, q, none⟩) HGS.out).trans (HSCw.out q hlt)
              have hset := v8c64_set k.W q hlt u v
              generalize u.list.getD q 0 = y1 at c1 hset
              generalize v.list.getD q 0 = y2 at c2 hset
              obtain ⟨a1, ha1, hw1⟩ := wrapS y1 y2
              rw [← add2 hW, ← ha1] at hset
              have L1 : Box (a1 < 18446744073709551616) := ⟨by rw [ha1]; exact M_lt _⟩
              obtain ⟨z, hz⟩ : ∃ z, z = a1 % 2 ^ k.W := ⟨_, rfl⟩
              have HZ := Box.mk hz
              rw [← hz] at hset
              have HSET := Box.mk (hset z rfl); have HC1 := Box.mk c1; have HC2 := Box.mk c2
              clear hset ha1 hz c1 c2
              go_upto_region 24 with (fail)
              have HB : Box (wy.drew.heap[b]? = some (.cells (kc k) 109 (0, 0))) := ⟨ST.out.kb⟩
              have l8 : Box (b8 < wy.drew.heap.size) := ⟨(Array.getElem?_eq_some_iff.1 ROW.out).1⟩
              have ls : Box (gs < wy.drew.heap.size) := ⟨Nat.lt_of_lt_of_le HGS.out ST.out.sz⟩
              refine wp_region_mix 14 [.flo, .flo, .flo, .flo, .flo, .flo, .flo, .flo, .flo, .flo, .flo, .flo, .cha, .flo] (by kernel_rfl) (by kernel_rfl) rfl ?_
              simp only [List.take, List.zip, List.zipWith]
              try go_frame
              refine gm_flo (.slice (some ⟨b8, 0, none⟩) 8 8) (fun w1 hw1 => ?_) ?_
              case refine_1 =>
                go_simp
              try go_frame
              refine gm_flo (.int .i64 (q : Nat)) (fun w1 hw1 => ?_) ?_
              case refine_1 =>
                go_simp
              try go_frame
              refine gm_loadK (.tmp 3) rfl b k HB.out (by simp) rfl ?_
              try go_frame
              refine gm_flo (.slice (some ⟨b8, 0, none⟩) 8 8) (fun w1 hw1 => ?_) ?_
              case refine_1 =>
                go_simp
              try go_frame
              refine gm_flo (.int .i64 (q : Nat)) (fun w1 hw1 => ?_) ?_
              case refine_1 =>
                go_simp
              try go_frame
              refine gm_flo (.pointer (some ⟨b8, q, none⟩)) (fun w1 hw1 => ?_) ?_
              case refine_1 =>
                go_simp
              try go_frame
              refine gm_flo (.int .u64 (y1 : Nat)) (fun w1 hw1 => ?_) ?_
              case refine_1 =>
                have hc := cellW hw1 l8.out HC1.out
                go_simp
              try go_frame
              refine gm_flo (.slice (some ⟨gs, 0, none⟩) 8 cs) (fun w1 hw1 => ?_) ?_
              case refine_1 =>
                go_simp
              try go_frame
              refine gm_flo (.int .i64 (q : Nat)) (fun w1 hw1 => ?_) ?_
              case refine_1 =>
                go_simp
              try go_frame
              refine gm_flo (.pointer (some ⟨gs, q, none⟩)) (fun w1 hw1 => ?_) ?_
              case refine_1 =>
                go_simp
              try go_frame
              refine gm_flo (.int .u64 (y2 : Nat)) (fun w1 hw1 => ?_) ?_
              case refine_1 =>
                have hc := cellW hw1 ls.out HC2.out
                go_simp
              try go_frame
              refine gm_flo (.int .u64 (a1 : Nat)) (fun w1 hw1 => ?_) ?_
              case refine_1 =>
                go_simp
              try go_frame
              refine gm_call [.agg (kc k), .int .u64 (a1 : Nat)] (by kernel_rfl) rfl rfl Stb.tt (fun w1 hw1 hF1 => (word_any k hW a1 L1.out w1).mono ?_)
              rintro e w2 ⟨rfl, hw2⟩
              refine ⟨_, rfl, hw2, ?_⟩
              clear hw1 hF1 w1 hw2 w2
              try go_frame
              rw [← HZ.out]
              refine gm_flo (.pointer (some ⟨b8, q, none⟩)) (fun w1 hw1 => ?_) ?_
              case refine_1 =>
                go_simp
              try go_frame
              refine gm_nil ?_
              intro w7 hw9 hF9
              simp only [List.drop]
              try go_frame
              have hf : w7.frozen? ⟨b8, q, none⟩ = false := frozen_of_row _ _ _ _ _ (hw9.block (show wy.drew.heap[b8]? = _ from ROW.out))
              have hcc : w7.cell? ⟨b8, q, none⟩ = some (.int .u64 (y1 : Nat)) := cellW (hw9.toS []) l8.out HC1.out
              have ST7 := Box.mk (ST.out.drew.gr hw9)
              have RW7 := Box.mk (hw9.block (show wy.drew.heap[b8]? = _ from ROW.out))
              clear hw9 hF9 HB l8 ls
              go_wp2_with fail
              refine ⟨⟨q + 1, by omega, by go_num, ?_, ?_, ?_, ?_⟩, by simp [intOf]; omega⟩
              · rw [heap_setCell_same _ _ _ _ _ _ RW7.out, HSET.out]
              · exact ST7.out.bel.setCell HBs.out _
              · simpa using ST7.out.sz
              · rw [heap_setCell_other _ _ _ _ HBB.out]; exact ST7.out.kb
            · obtain rfl : q = 8 := by omega
              have row := ROW.out
              rw [mixV_all, ← HBLK.out] at row
              have ROW := Box.mk row
              clear hlt row
              go_wp2_with fail
              go_ret
              exact ⟨b8, rfl, HWB.out, (Array.getElem?_eq_some_iff.1 ROW.out).1, fun j hj => by rw [cell_of_row _ _ _ _ _ _ ROW.out, v8c64_cell _ hj], ST.out.bel⟩
end Go.Proofs.Ytopiopomioglfaa.Big
namespace Go.Proofs.Ytopiopomioglfaa
set_option maxRecDepth 100000
set_option linter.unusedVariables false
open Go Go.RowKit

theorem Own.base {w : World} {base base' n : Nat} {e : TypeId} {v : Value} {xs : List Value} (h : Own w base e v n xs) (hb : base' ≤ base) : Own w base' e v n xs := by
  refine ⟨h.1, ?_⟩
  rcases h.2 with ⟨a, b⟩ | ⟨g, cap, cur, fr, rfl, b, c⟩
  · exact .inl ⟨a, b⟩
  · exact .inr ⟨g, cap, cur, fr, rfl, Nat.le_trans hb b, c⟩
/-- append of m ones, that lie anywhere. -/
theorem run_append_OwnB {P : Program} (w : World) (base : Nat) (t ty e : TypeId) (z : Value) (by_ : Nat) (ht : P.underlying t = some (.slice e)) (hi : (P.info? e).map (fun i => (i.zero, i.size, i.bytes)) = some (some z, 1, by_)) (hz : z.cells.size = 1)
    (v : Value) (n : Nat) (xs : List Value) (hown : Own w base e v n xs) (a : Addr) (m c : Nat) (news : List Value) (hl : news.length = m) (hnews : ∀ j u, news[j]? = some u → w.cell? (a.add j) = some u) (h1 : ∀ u ∈ news, u.oneCell' = true)
    (hm : 0 < m) (hn : n + m ≤ 1000000000) (hby : by_ ≤ 16) (hbase : base ≤ w.heap.size) :
    ∃ v' w', (Builtin.append_ #[t, t] ty #[v, .slice (some a) m c]).run P w = .ok v' w' ∧ Own w' base e v' (n + m) (xs ++ news) ∧ w.grownBy w' v.ownBlock ∧ v' ≠ .slice none 0 0 ∧ ∀ k, v'.ownBlock = some k → v.ownBlock = some k ∨ w.heap.size ≤ k := by
  obtain ⟨i0, hi0, hz0, hz1, hz2⟩ := info_parts hi
  have hlen : (xs ++ news).length = n + m := by rw [List.length_append, hown.1, hl]
  have hbytes : (n + m) * by_ ≤ 140737488355328 := by
    have : (n + m) * by_ ≤ (n + m) * 16 := Nat.mul_le_mul (Nat.le_refl _) hby
    omega
  have h63 : n + m ≤ maxLen := by unfold maxLen; omega
  rcases hown.2 with ⟨rfl, rfl⟩ | ⟨g, cap, cur, fr, rfl, hbg, hg, hnc, hcm, hcs, htake, hfr⟩
  · have hx : xs = [] := List.eq_nil_of_length_eq_zero hown.1
    subst hx
    obtain ⟨v', w', r1, r2, r3, r4⟩ := run_append_own (P := P) w w.heap.size t ty e i0 z 1 by_ ht hi0 hz0 hz1 hz2 hz (by decide) (.slice none 0 0) 0 [] (World.ownsRow_nil _ _ _ _) a m c news (by rw [hl, Nat.mul_one]) hnews h1 h63 hbytes (Nat.le_refl _)
    have ro := Own.of r2
    exact ⟨v', w', r1, ro.base hbase, r3, (fun e => by have := (r4.1 e).2; omega), fun k hk => .inr (ro.lt k hk).1⟩
  · by_cases hroom : n + m ≤ cap
    · have hr := run_append_room_cells (P := P) (w := w) t ty e i0 ht hi0 g 0 n cap a m c news (by rw [hl, hz1, Nat.mul_one]) hnews h1 hroom (fun j hj => by
        rw [hz1, Nat.zero_add, Nat.mul_one, cell_of_row _ _ _ _ _ _ hg, Array.getElem?_eq_getElem (by omega)]; rfl) (fun j hj => by
        rw [hz1, Nat.zero_add, Nat.mul_one]
        simp only [World.frozen?, hg]
        rcases hfr with hfr | hfr
        · rw [hfr]; simp
        · have : ¬ fr.1 ≤ n + j := by omega
          simp [this])
      rw [hz1, Nat.zero_add, Nat.mul_one] at hr
      have hset : ∀ (vs : List Value) (o : Nat) (W : World) (C : Array Value), W.heap[g]? = some (.cells C e fr) → o + vs.length ≤ C.size → ∃ C', (W.setCells g o vs).heap[g]? = some (.cells C' e fr) ∧ C'.size = C.size ∧ C'.toList.take (o + vs.length) = C.toList.take o ++ vs := by
        intro vs
        induction vs with
        | nil => intro o W C hC _; exact ⟨C, hC, rfl, by simp⟩
        | cons u vs ih =>
          intro o W C hC hle
          rw [List.length_cons] at hle
          obtain ⟨C', q1, q2, q3⟩ := ih (o + 1) (W.setCell ⟨g, o, none⟩ u) (C.setIfInBounds o u) (by rw [heap_set, if_pos rfl, hC]; rfl) (by simp; omega)
          refine ⟨C', q1, by simpa using q2, ?_⟩
          rw [List.length_cons, show o + (vs.length + 1) = o + 1 + vs.length from by omega, q3, Array.toList_setIfInBounds, List.take_succ_eq_append_getElem (by simp; omega), List.take_set_of_le (by omega)]
          simp
      obtain ⟨C', q1, q2, q3⟩ := hset news n w cur hg (by omega)
      refine ⟨_, _, hr, ⟨hlen, .inr ⟨g, cap, C', fr, rfl, hbg, q1, hroom, hcm, q2.trans hcs, ?_, hfr⟩⟩, ⟨?_, ?_, ?_, ?_, ?_⟩, by simp, fun k hk => .inl hk⟩
      · rw [← hl, q3, htake]
      · exact (upd_setCells g news n w).os
      · exact (upd_setCells g news n w).tape
      · exact (upd_setCells g news n w).output
      · exact (upd_setCells g news n w).size
      · intro k hk hne
        exact (upd_setCells g news n w).block k hk (by simp only [List.mem_singleton]; intro e; exact hne (by simp [Value.ownBlock, e]))
    · have holds : ∀ j u, xs[j]? = some u → w.cell? ((⟨g, 0, none⟩ : Addr).add j) = some u := by
        intro j u hu
        rw [show ((⟨g, 0, none⟩ : Addr).add j) = ⟨g, j, none⟩ from by unfold Addr.add; split <;> simp_all, cell_of_row _ _ _ _ _ _ hg]
        rw [← htake, List.getElem?_take] at hu
        split at hu
        · simpa using hu
        · cases hu
      have hr := run_append_grow (P := P) w t ty e i0 z ht hi0 hz0 ⟨g, 0, none⟩ n cap xs (by rw [hz1, Nat.mul_one]; exact hown.1) holds a m c news (by rw [hz1, Nat.mul_one]; exact hl) hnews (by omega) (by omega) (growslice_fits (by omega) (by rw [hz2]; exact hbytes))
      have hge := grownCap_ge w (n + m) cap e
      have hcm' : grownCap w (n + m) cap e ≤ maxLen := grownCap_le_maxLen w (n + m) cap e h63
      refine ⟨_, _, hr, ⟨hlen, .inr ⟨w.heap.size, _, _, (0, 0), rfl, hbase, heap_alloc_new w.drew _, hge, hcm', ?_, ?_, .inl rfl⟩⟩, ⟨rfl, rfl, rfl, by simp, fun k hk _ => heap_alloc_old w.drew _ hk⟩, by simp, fun k hk => .inr (by simp [Value.ownBlock] at hk; omega)⟩
      · simp only [Array.size_append, List.size_toArray, size_zeroCells, hz, hown.1, hl]
        omega
      · simp only [Array.toList_append, List.append_assoc]
        rw [← List.append_assoc, ← hlen]
        exact List.take_left

section
variable {P : Program} {W : World} {S : List Nat} {T : (World → Prop) → List Nat → Act → Prop} {L : List (Oper × Kd)} {F : World → Prop} {N : List Nat} {a : Act} {o : Oper}
/-- append of one to a row whose block is in S. -/
theorem gm_app1 (s x : Operand) (t : TypeId) (ho : o.op = .call { callee := .builtin .append, args := #[s, x], argTypes := #[t, t] })
    (B : Nat) (e : TypeId) (z : Value) (by_ : Nat) (ht : P.underlying t = some (.slice e)) (hi : (P.info? e).map (fun i => (i.zero, i.size, i.bytes)) = some (some z, 1, by_)) (hz : z.cells.size = 1)
    (v : Value) (n : Nat) (xs : List Value) (hs : a.eval s = v) (g : Nat) (y : Value) (hx : a.eval x = .slice (some ⟨g, 0, none⟩) 1 1) (h1 : y.oneCell' = true) (hn : n + 1 ≤ 1000000000) (hby : by_ ≤ 16)
    (hS : ∀ k, v.ownBlock = some k → k ∈ S) (hF : ∀ w, GrS S W w → F w → Own w B e v n xs ∧ B ≤ w.heap.size ∧ w.cell? ⟨g, 0, none⟩ = some y)
    (h : ∀ v', v' ≠ .slice none 0 0 → (∀ k, v'.ownBlock = some k → v.ownBlock = some k ∨ W.heap.size ≤ k) → wpG P W S T L (fun w => Own w B e v' (n + 1) (xs ++ [y])) N (a.put o.dst v')) : wpG P W S T ((o, .cha) :: L) F N a := by
  intro w hw hFw
  obtain ⟨own, hB, hy⟩ := hF w hw hFw
  obtain ⟨v', w', r1, r2, r3, r4, r5⟩ := run_append_OwnB (P := P) w B t o.type e z by_ ht hi hz v n xs own ⟨g, 0, none⟩ 1 1 [y] rfl (fun j u hj => by
    match j, hj with
    | 0, hj => simp at hj; subst hj; simpa [Addr.add] using hy) (fun u hu => by simp at hu; subst hu; exact h1) (by decide) hn hby hB
  refine .inr (.inr ⟨v', w', ?_, ?_, _, [], ?_, r2, (fun _ hb => by cases hb), h v' r4 (fun k hk => (r5 k hk).imp id (Nat.le_trans hw.size))⟩)
  · simp [execOp, ho, resolve, invoke, builtin, hs, hx, r1, Result.andThen]
  · exact (GrS.mk r3.os r3.tape r3.output r3.size (fun k hk hn => r3.block k hk (fun e => hn (hS k e.symm)))).d
  · exact fun w1 w2 hg ho => ho.below hg
end
end Go.Proofs.Ytopiopomioglfaa
namespace Go.Proofs.Ytopiopomioglfaa.Big
set_option maxRecDepth 100000
set_option linter.unusedVariables false
open Go Go.RowKit
open Sha
def kz : KV := ⟨0, ⟨⟨0, 0, 0⟩, ⟨0, 0, 0⟩, ⟨0, 0, 0⟩, ⟨0, 0, 0⟩⟩, .slice none 0 0, .slice none 0 0⟩
theorem kc_one (k : KV) (hK : k.K.oneCell' = true) (hH : k.H.oneCell' = true) : (kc k).all (·.oneCell') = true := by
  simp [kc, iv, Value.oneCell']
  simp [Value.oneCell'] at hK hH
  exact ⟨hK, hH⟩
theorem kc_setK (W : Nat) (s : Sh) (a b c : Value) : (kc ⟨W, s, a, b⟩).setIfInBounds 13 c = kc ⟨W, s, c, b⟩ := rfl
theorem kc_setH (W : Nat) (s : Sh) (a b c : Value) : (kc ⟨W, s, a, b⟩).setIfInBounds 14 c = kc ⟨W, s, a, c⟩ := rfl
theorem wpList_storeK {ops : Array Oper} {rest : List Oper} {o : Oper} {a : Act} {w : World} {Q : Exit → Act → World → Prop} (hgd : o.guard = none) (x y : Operand) (ho : o.op = .store 109 x y)
    (g : Nat) (k k0 : KV) (hk : (kc k).all (·.oneCell') = true) (hg : w.heap[g]? = some (.cells (kc k0) 109 (0, 0))) (hx : a.eval x = .pointer (some ⟨g, 0, none⟩)) (hy : a.eval y = .agg (kc k))
    (h : wpList Try.prog ops Q rest (a.put o.dst undef) (w.setRow g (kc k))) : wpList Try.prog ops Q (o :: rest) a w :=
  wpList_store_row hgd 109 x y ho g (kc k) hx hy 109 (kc k0) hg (by kernel_rfl) rfl hk h
theorem wpList_loadK {ops : Array Oper} {rest : List Oper} {o : Oper} {a : Act} {w : World} {Q : Exit → Act → World → Prop} (hgd : o.guard = none) (x : Operand) (ho : o.op = .load 109 x)
    (g : Nat) (k : KV) (hg : w.heap[g]? = some (.cells (kc k) 109 (0, 0))) (hx : a.eval x = .pointer (some ⟨g, 0, none⟩))
    (h : wpList Try.prog ops Q rest (a.put o.dst (.agg (kc k))) w) : wpList Try.prog ops Q (o :: rest) a w :=
  wpList_load_row hgd 109 x ho g hx 109 (kc k) (0, 0) _ hg Try.underlying109 rfl (by kernel_rfl) h
/-- The constants so far: a kind in block b, its two rows apart. -/
structure OSt (w0 : World) (b : Nat) (W : Nat) (s : Sh) (vK vH : Value) (n m : Nat) (xs ys : List Nat) (wr : World) : Prop where
  upd : Upd [b] w0 wr
  row : wr.heap[b]? = some (.cells (kc ⟨W, s, vK, vH⟩) 109 (0, 0))
  oK : Own wr w0.heap.size 92 vK n (xs.map u64v)
  oH : Own wr w0.heap.size 92 vH m (ys.map u64v)
  sep : ∀ k, vK.ownBlock = some k → vH.ownBlock ≠ some k
theorem OSt.drew {w0 wr : World} {b W n m : Nat} {s : Sh} {vK vH : Value} {xs ys : List Nat} (h : OSt w0 b W s vK vH n m xs ys wr) : OSt w0 b W s vK vH n m xs ys wr.drew :=
  ⟨h.upd.drew, h.row, h.oK.drew, h.oH.drew, h.sep⟩
theorem Own.notK {w : World} {B b n : Nat} {v : Value} {xs : List Value} {cs : Array Value} {fr : Nat × Nat} (h : Own w B 92 v n xs) (hb : w.heap[b]? = some (.cells cs 109 fr)) : ∀ k, v.ownBlock = some k → k ≠ b := by
  intro k he e
  subst e
  rcases h.2 with ⟨rfl, _⟩ | ⟨g, cap, cur, fr, rfl, _, hg, _⟩
  · simp [Value.ownBlock] at he
  · simp [Value.ownBlock] at he
    subst he
    rw [hb] at hg
    have := Option.some.inj hg
    injection this with _ h2 _
    exact absurd h2 (by decide)
/-- One more behind the first row: the world w' behind the append, the kind stored anew. -/
theorem OSt.addK {w0 wr w' : World} {b W n m : Nat} {s : Sh} {vK vH v' : Value} {xs ys : List Nat} {y : Nat} (h : OSt w0 b W s vK vH n m xs ys wr) (hg : GrS vK.ownBlock.toList wr w')
    (ho : Own w' w0.heap.size 92 v' (n + 1) (xs.map u64v ++ [u64v y])) (hv : ∀ k, v'.ownBlock = some k → vK.ownBlock = some k ∨ wr.heap.size ≤ k) (hb : b < w0.heap.size) :
    OSt w0 b W s v' vH (n + 1) m (xs ++ [y]) ys (w'.setCell ⟨b, 13, none⟩ v') := by
  have hnb : b ∉ vK.ownBlock.toList := fun hm => by
    have := Own.notK h.oK h.row b (by simpa using hm)
    exact this rfl
  have hrow : w'.heap[b]? = _ := hg.at hnb h.row
  have hH : ∀ k, vH.ownBlock = some k → w'.heap[k]? = wr.heap[k]? := fun k hk => hg.block k (h.oH.lt k hk).2 (fun hm => h.sep k (by simpa using hm) hk)
  refine ⟨⟨hg.os.trans h.upd.os, hg.tape.trans h.upd.tape, hg.output.trans h.upd.output, ?_, fun i hi hn => ?_⟩, ?_, ?_, ?_, ?_⟩
  · simpa using Nat.le_trans h.upd.size hg.size
  · rw [heap_setCell_other _ _ _ _ (by simpa using hn), hg.block i (Nat.lt_of_lt_of_le hi h.upd.size) (fun hm => by have := (h.oK.lt i (by simpa using hm)).1; omega)]
    exact h.upd.block i hi hn
  · rw [heap_setCell_same _ _ _ _ _ _ hrow, kc_setK]
  · rw [List.map_append]
    refine ho.keep fun k hk => heap_setCell_other _ _ _ _ ?_
    exact Own.notK ho hrow k hk
  · refine (h.oH.keep hH).keep fun k hk => heap_setCell_other _ _ _ _ ?_
    exact Own.notK h.oH h.row k hk
  · intro k hk hk2
    rcases hv k hk with h1 | h1
    · exact h.sep k h1 hk2
    · have := (h.oH.lt k hk2).2; omega
theorem OSt.addH {w0 wr w' : World} {b W n m : Nat} {s : Sh} {vK vH v' : Value} {xs ys : List Nat} {y : Nat} (h : OSt w0 b W s vK vH n m xs ys wr) (hg : GrS vH.ownBlock.toList wr w')
    (ho : Own w' w0.heap.size 92 v' (m + 1) (ys.map u64v ++ [u64v y])) (hv : ∀ k, v'.ownBlock = some k → vH.ownBlock = some k ∨ wr.heap.size ≤ k) (hb : b < w0.heap.size) :
    OSt w0 b W s vK v' n (m + 1) xs (ys ++ [y]) (w'.setCell ⟨b, 14, none⟩ v') := by
  have hnb : b ∉ vH.ownBlock.toList := fun hm => by
    have := Own.notK h.oH h.row b (by simpa using hm)
    exact this rfl
  have hrow : w'.heap[b]? = _ := hg.at hnb h.row
  have hK : ∀ k, vK.ownBlock = some k → w'.heap[k]? = wr.heap[k]? := fun k hk => hg.block k (h.oK.lt k hk).2 (fun hm => h.sep k hk (by simpa using hm))
  refine ⟨⟨hg.os.trans h.upd.os, hg.tape.trans h.upd.tape, hg.output.trans h.upd.output, ?_, fun i hi hn => ?_⟩, ?_, ?_, ?_, ?_⟩
  · simpa using Nat.le_trans h.upd.size hg.size
  · rw [heap_setCell_other _ _ _ _ (by simpa using hn), hg.block i (Nat.lt_of_lt_of_le hi h.upd.size) (fun hm => by have := (h.oH.lt i (by simpa using hm)).1; omega)]
    exact h.upd.block i hi hn
  · rw [heap_setCell_same _ _ _ _ _ _ hrow, kc_setH]
  · refine (h.oK.keep hK).keep fun k hk => heap_setCell_other _ _ _ _ ?_
    exact Own.notK h.oK h.row k hk
  · rw [List.map_append]
    refine ho.keep fun k hk => heap_setCell_other _ _ _ _ ?_
    exact Own.notK ho hrow k hk
  · intro k hk hk2
    rcases hv k hk2 with h1 | h1
    · exact h.sep k hk h1
    · have := (h.oK.lt k hk).2; omega
theorem cellS {W w : World} {S : List Nat} (hw : GrS S W w) {g j : Nat} {v : Value} (hg : g < W.heap.size) (hn : g ∉ S) (h : W.cell? ⟨g, j, none⟩ = some v) : w.cell? ⟨g, j, none⟩ = some v :=
  (World.cell?_of_block (w := W) (hw.block g hg hn)).trans h
theorem ps_len : ps.length = 80 := by decide
theorem ps_lt : ∀ p ∈ ps, p < 1000 := by decide
theorem K_len : K.length = 80 := by decide
theorem K_at (i : Nat) (hi : i < 80) : rootF (ps.getD i 0) 3 = K.getD i 0 := by
  rw [← roots3, List.getD_eq_getElem?_getD, List.getD_eq_getElem?_getD, List.getElem?_map, List.getElem?_eq_getElem (by rw [ps_len]; exact hi)]
  rfl
theorem H_at (i : Nat) (hi : i < 8) : rootF (ps.getD i 0) 2 = k512.h.list.getD i 0 := by
  rw [← roots2, List.getD_eq_getElem?_getD, List.getD_eq_getElem?_getD, List.getElem?_map, List.getElem?_take, if_pos hi, List.getElem?_eq_getElem (by rw [ps_len]; omega)]
  rfl
theorem take_getD (l : List Nat) (m i : Nat) (h : i < m) : (l.take m).getD i 0 = l.getD i 0 := by
  rw [List.getD_eq_getElem?_getD, List.getD_eq_getElem?_getD, List.getElem?_take, if_pos h]
theorem root_lt (n p : Nat) : rootF n p < 18446744073709551616 := Nat.mod_lt _ (by decide)
/-- The constants of 32 bits. -/
@[irreducible] def K32 : List Nat := (K.take 64).map (· / 4294967296)
theorem K32_eq : K32 = (K.take 64).map (· / 4294967296) := by unfold K32; rfl
theorem K32_len : K32.length = 64 := by rw [K32_eq]; decide
theorem K32_at (i : Nat) (hi : i < 64) : rootF (ps.getD i 0) 3 / 4294967296 = K32.getD i 0 := by
  rw [K_at i (by omega), K32_eq, List.getD_eq_getElem?_getD, List.getD_eq_getElem?_getD, List.getElem?_map, List.getElem?_take, if_pos hi, List.getElem?_eq_getElem (by rw [K_len]; omega)]; rfl
@[irreducible] def H32 : List Nat := k256.h.list
theorem H32_len : H32.length = 8 := by unfold H32; rfl
theorem H32_at (i : Nat) (hi : i < 8) : rootF (ps.getD i 0) 2 / 4294967296 = H32.getD i 0 := by
  rw [H_at i hi]; unfold H32
  match i, hi with
  | 0, _ => rfl
  | 1, _ => rfl
  | 2, _ => rfl
  | 3, _ => rfl
  | 4, _ => rfl
  | 5, _ => rfl
  | 6, _ => rfl
  | 7, _ => rfl
@[irreducible] def K64 : List Nat := K
theorem K64_len : K64.length = 80 := by unfold K64; exact K_len
theorem K64_at (i : Nat) (hi : i < 80) : rootF (ps.getD i 0) 3 = K64.getD i 0 := by unfold K64; exact K_at i hi
@[irreducible] def H64 : List Nat := k512.h.list
theorem H64_len : H64.length = 8 := by unfold H64; rfl
theorem H64_at (i : Nat) (hi : i < 8) : rootF (ps.getD i 0) 2 = H64.getD i 0 := by unfold H64; exact H_at i hi
theorem take_snoc (l : List Nat) (k : Nat) (h : k < l.length) : l.take (k + 1) = l.take k ++ [l.getD k 0] := by
  rw [List.take_succ_eq_append_getElem h, List.getD_eq_getElem?_getD, List.getElem?_eq_getElem h]; rfl
set_option maxRecDepth 100000 in
set_option maxHeartbeats 4000000 in
theorem of32_any (w : World) :
    Calls Try.prog 61 #[.int .i64 0] w fun e w' => ∃ vK vH, e = .returned (.agg (kc ⟨32, sh256, vK, vH⟩)) ∧ Own w' w.heap.size 92 vK 64 (K32.map u64v) ∧ Own w' w.heap.size 92 vH 8 (H32.map u64v) ∧ vK ≠ .slice none 0 0 ∧ vH ≠ .slice none 0 0 ∧ Below w.heap.size w w' := by
  go_enter Try.func61, Try.ntmps61
  go_upto_region 0 with (fail)
  refine wp_region_seq 1 [.new (.cells (kc kz) 109)] (by rfl) rfl (by decide) ?_
  simp only [List.take, List.zip, List.zipWith]
  try go_frame
  refine gm_alloc rfl (.cells (kc kz) 109) (fun _ => by kernel_rfl) (fun b2 hb2 hn2 => ?_)
  try go_frame
  refine gm_nil ?_
  intro w1 hw1 hF1
  simp only [List.drop]
  try go_frame
  have HW1 := Box.mk hw1; have R1 := Box.mk hF1.2; have G2 := Box.mk hb2
  clear hw1 hF1 hb2 hn2
  go_upto_region 1 with (fail)
  refine wp_region_seq 7 [.flo, .flo, .flo, .flo, .flo, .new (.cells (kc kz) 109), .cha] (by rfl) rfl (by decide) ?_
  simp only [List.take, List.zip, List.zipWith]
  try go_frame
  refine gm_flo (.agg (tc ⟨2, 13, 22⟩)) (fun w1 _ => by kernel_rfl) ?_
  try go_frame
  refine gm_flo (.agg (tc ⟨6, 11, 25⟩)) (fun w1 _ => by kernel_rfl) ?_
  try go_frame
  refine gm_flo (.agg (tc ⟨7, 18, 3⟩)) (fun w1 _ => by kernel_rfl) ?_
  try go_frame
  refine gm_flo (.agg (tc ⟨17, 19, 10⟩)) (fun w1 _ => by kernel_rfl) ?_
  try go_frame
  refine gm_flo (.agg (kc ⟨32, sh256, .slice none 0 0, .slice none 0 0⟩)) (fun w1 _ => by kernel_rfl) ?_
  try go_frame
  refine gm_alloc rfl (.cells (kc kz) 109) (fun _ => by kernel_rfl) (fun b hb hn => ?_)
  try go_frame
  refine gm_storeN (.tmp 3) (.tmp 11) rfl b (kc kz) (kc ⟨32, sh256, .slice none 0 0, .slice none 0 0⟩) 109 rfl rfl (by simp) rfl kc_info rfl (kc_one _ rfl rfl) (fun _ => True) (fun _ h => ⟨trivial, h.2⟩) Stb.tt (fun _ _ => trivial) ?_
  try go_frame
  refine gm_nil ?_
  intro w2 hw2 hF2
  simp only [List.drop]
  try go_frame
  have R2 := Box.mk (hw2.block R1.out); have HW2 := Box.mk (HW1.out.trans hw2); have RB := Box.mk hF2.2
  have GB : Box (w.heap.size ≤ b) := ⟨Nat.le_trans HW1.out.size hb⟩
  have NE : Box (b ≠ b2) := ⟨Nat.ne_of_gt (Nat.lt_of_lt_of_le (Array.getElem?_eq_some_iff.1 R1.out).1 hb)⟩
  clear hw2 hF2 HW1 R1 hb hn
  go_wp2_with fail
  refine (primes_any 64 (by omega) w2).mono ?_
  rintro e w5 ⟨vl, rfl, ol, nl, hw5⟩
  obtain ⟨gl, cl, rfl, _, hcl, hgl, _⟩ := ol.cells nl
  have R5 := Box.mk ((Gr.of hw5).block RB.out); have R25 := Box.mk ((Gr.of hw5).block R2.out); have HW5 := Box.mk (HW2.out.trans (Gr.of hw5)); have LB := Box.mk (Array.getElem?_eq_some_iff.1 RB.out).1
  have GL := Box.mk hgl
  have NL : Box (gl ≠ b) := ⟨by
    have h1 := ol.lt gl rfl
    have := LB.out; omega⟩
  have HCL : Box (∀ j, j < 64 → w5.cell? ⟨gl, j, none⟩ = some (.int .i64 (ps.getD j 0 : Nat))) := ⟨fun j hj => hcl j _ (by rw [iv_at _ _ (by rw [List.length_take, ps_len]; omega), take_getD _ _ _ hj])⟩
  have S0 : Box (OSt w5 b 32 sh256 (.slice none 0 0) (.slice none 0 0) 0 0 [] [] w5) := ⟨⟨Upd.refl _ _, R5.out, Own.nil _ _ _, Own.nil _ _ _, by simp [Value.ownBlock]⟩⟩
  have B5 : Box (b < w5.heap.size) := ⟨(Array.getElem?_eq_some_iff.1 R5.out).1⟩
  clear hcl hgl hw5 ol nl R5 LB RB R2 HW2
  go_wp2_with fail
  go_loopw [6] (fun i wr => ∃ n : Nat, n ≤ 64 ∧ i = .int .i64 n ∧ ∃ vK vH, OSt w5 b 32 sh256 vK vH n (min n 8) (K32.take n) (H32.take n) wr ∧ (0 < n → vK ≠ .slice none 0 0 ∧ vH ≠ .slice none 0 0)) (fun i _ => 64 - (intOf i).toNat)
  case atStart => exact ⟨0, by omega, rfl, _, _, by simpa using S0.out, by omega⟩
  case round =>
    clear S0
    obtain ⟨n, hn, rfl, vK, vH, st, hnn⟩ := hrel
    have ST := Box.mk st; have NN := Box.mk hnn
    clear st hnn
    by_cases hlt : n < 64
    · have hltI : (n : Int) < 64 := by omega
      have NR := Box.mk (show ps.getD n 0 < 1000 from by
        rw [List.getD_eq_getElem?_getD, List.getElem?_eq_getElem (by rw [ps_len]; omega)]; exact ps_lt _ (List.getElem_mem _))
      have KA := K32_at n hlt
      have HA := Box.mk (H32_at n)
      have KT := Box.mk (take_snoc K32 n (by rw [K32_len]; exact hlt))
      have HT := Box.mk (take_snoc H32 n)
      have HC : wr.cell? ⟨gl, n, none⟩ = some (.int .i64 (ps.getD n 0 : Nat)) := (World.cell?_of_block (w := w5) (ST.out.upd.block gl GL.out (by simpa using NL.out))).trans (HCL.out n hlt)
      generalize ps.getD n 0 = p at NR KA HA HC
      have RL := root_lt p 3
      obtain ⟨x, hx⟩ : ∃ x, x = rootF p 3 := ⟨_, rfl⟩
      rw [← hx] at KA RL
      obtain ⟨y, hy⟩ : ∃ y, y = K32.getD n 0 := ⟨_, rfl⟩
      rw [← hy] at KA
      have hsh : (x : Int) / 4294967296 = (y : Int) := by omega
      have HX := Box.mk hx; have HY := Box.mk hy; have HCB := Box.mk HC; have HC0 := Box.mk ((World.cell?_of_block (w := w5) (ST.out.upd.block gl GL.out (by simpa using NL.out))).symm.trans HC)
      clear hx hy KA RL HC
      go_upto_region 10 with (fail)
      have cK : wr.drew.cell? ⟨b, 13, none⟩ = some vK := cell_of_row _ _ _ _ _ _ ST.out.row
      have cW : wr.drew.cell? ⟨b, 0, none⟩ = some (.int .i64 32) := cell_of_row _ _ _ _ _ _ ST.out.row
      have CK := Box.mk cK; have CW := Box.mk cW
      have HSl : Box (∀ k, vK.ownBlock = some k → k ∈ vK.ownBlock.toList) := ⟨fun k hk => by rw [hk]; simp⟩
      have NB : Box (b ∉ vK.ownBlock.toList) := ⟨fun hm => Own.notK ST.out.oK ST.out.row b (by simpa using hm) rfl⟩
      have NG : Box (gl ∉ vK.ownBlock.toList) := ⟨fun hm => by have := (ST.out.oK.lt gl (by simpa using hm)).1; have := GL.out; omega⟩
      have bw : Box (b < wr.drew.heap.size) := ⟨(Array.getElem?_eq_some_iff.1 ST.out.row).1⟩
      have gw : Box (gl < wr.drew.heap.size) := ⟨Nat.lt_of_lt_of_le GL.out ST.out.upd.size⟩
      clear cK cW
      refine wp_region_mixS vK.ownBlock.toList (fun w => Own w w5.heap.size 92 vK n ((K32.take n).map u64v) ∧ w5.heap.size ≤ w.heap.size) (fun w1 w2 hg h => ⟨h.1.below hg, Nat.le_trans h.2 hg.size⟩) ⟨ST.out.oK.drew, ST.out.upd.size⟩ (fun k hk => (ST.out.oK.lt k (by simpa using hk)).2) 14 [.flo, .flo, .flo, .flo, .flo, .flo, .cha, .flo, .flo, .flo, .flo, .cha, .cha, .flo] (by kernel_rfl) (by kernel_rfl) rfl ?_
      simp only [List.take, List.zip, List.zipWith]
      try go_frame
      refine gm_flo (.pointer (some ⟨b, 13, none⟩)) (fun w1 hw1 => ?_) ?_
      case refine_1 =>
        go_simp
      try go_frame
      refine gm_flo (vK) (fun w1 hw1 => ?_) ?_
      case refine_1 =>
        have hc := cellS hw1 bw.out NB.out CK.out
        go_simp
      try go_frame
      refine gm_flo (.slice (some ⟨gl, 0, none⟩) 64 cl) (fun w1 hw1 => ?_) ?_
      case refine_1 =>
        go_simp
      try go_frame
      refine gm_flo (.int .i64 (n : Nat)) (fun w1 hw1 => ?_) ?_
      case refine_1 =>
        go_simp
      try go_frame
      refine gm_flo (.pointer (some ⟨gl, n, none⟩)) (fun w1 hw1 => ?_) ?_
      case refine_1 =>
        go_simp
      try go_frame
      refine gm_flo (.int .i64 (p : Nat)) (fun w1 hw1 => ?_) ?_
      case refine_1 =>
        have hc := cellS hw1 gw.out NG.out HCB.out
        go_simp
      try go_frame
      refine gm_call [.int .i64 (p : Nat), .int .i64 3] (by kernel_rfl) rfl rfl (fun _ _ hg h => ⟨h.1.below hg, Nat.le_trans h.2 hg.size⟩) (fun w1 hw1 hF1 => (root_3 p w1 NR.out).mono ?_)
      rintro e w2 ⟨rfl, hw2⟩
      refine ⟨_, rfl, hw2, ?_⟩
      clear hw1 hF1 w1 hw2 w2
      try go_frame
      rw [← HX.out]
      refine gm_flo (.pointer (some ⟨b, 0, none⟩)) (fun w1 hw1 => ?_) ?_
      case refine_1 =>
        go_simp
      try go_frame
      refine gm_flo (.int .i64 32) (fun w1 hw1 => ?_) ?_
      case refine_1 =>
        have hc := cellS hw1 bw.out NB.out CW.out
        go_simp
      try go_frame
      refine gm_flo (.int .i64 32) (fun w1 hw1 => ?_) ?_
      case refine_1 =>
        have hwr : IntKind.i64.wrap 32 = 32 := rfl
        go_simp
      try go_frame
      refine gm_flo (.int .u64 (y : Nat)) (fun w1 hw1 => ?_) ?_
      case refine_1 =>
        go_simp
      try go_frame
      refine gm_one (e := 92) (.tmp 36) rfl (.int .u64 (y : Nat)) rfl (fun _ => by kernel_rfl) (fun _ _ hg h => ⟨h.1.below hg, Nat.le_trans h.2 hg.size⟩) (fun b1 hb1 => ?_)
      try go_frame
      refine gm_app1 (.tmp 27) (.tmp 37) 107 rfl w5.heap.size 92 (.int .u64 0) 8 Try.underlying107 (by kernel_rfl) rfl (vK) (n) ((K32.take n).map u64v) rfl b1 (.int .u64 (y : Nat)) rfl rfl (by omega) (by omega) HSl.out (fun w1 hw1 h => ⟨h.1.1, h.1.2, (cell_of_row _ _ _ _ _ _ h.2).trans rfl⟩) (fun v' hv' hv2 => ?_)
      try go_frame
      refine gm_flo (.pointer (some ⟨b, 13, none⟩)) (fun w1 hw1 => ?_) ?_
      case refine_1 =>
        go_simp
      try go_frame
      refine gm_nil ?_
      intro w9 hw9 hF9
      simp only [List.drop]
      try go_frame
      obtain ⟨g', cap', rfl, _, _, _, _⟩ := hF9.cells hv'
      have hf : w9.frozen? ⟨b, 13, none⟩ = false := frozen_of_row _ _ _ _ _ (hw9.at NB.out (show wr.drew.heap[b]? = _ from ST.out.row))
      have hcc : w9.cell? ⟨b, 13, none⟩ = some vK := cellS hw9 bw.out NB.out CK.out
      have ST2 : Box (OSt w5 b 32 sh256 (.slice (some ⟨g', 0, none⟩) (n + 1) cap') vH (n + 1) (min n 8) (K32.take (n + 1)) (H32.take n) (w9.setCell ⟨b, 13, none⟩ (.slice (some ⟨g', 0, none⟩) (n + 1) cap'))) := ⟨by
        rw [KT.out, ← HY.out]; exact ST.out.drew.addK hw9 hF9 hv2 B5.out⟩
      clear hw9 hF9 hv2 hv' CK CW HSl NB NG bw gw ST HX HY KT hsh HCB

      go_upto_if 41 with (fail)
      generalize w9.setCell ⟨b, 13, none⟩ (.slice (some ⟨g', 0, none⟩) (n + 1) cap') = wq at ST2 ⊢
      clear hf hcc
      by_cases h8 : n < 8
      · have h8I : (n : Int) < 8 := by omega
        have m8 : min n 8 = n := by omega
        have m9 : min (n + 1) 8 = n + 1 := by omega
        rw [m8] at ST2
        have HA2 := HA.out h8
        have RL := root_lt p 2
        obtain ⟨x, hx⟩ : ∃ x, x = rootF p 2 := ⟨_, rfl⟩
        rw [← hx] at HA2 RL
        obtain ⟨y, hy⟩ : ∃ y, y = H32.getD n 0 := ⟨_, rfl⟩
        rw [← hy] at HA2
        have hsh : (x : Int) / 4294967296 = (y : Int) := by omega
        have HX := Box.mk hx; have HY := Box.mk hy; have M9 := Box.mk m9
        have HT2 := Box.mk (HT.out (by rw [H32_len]; exact h8))
        have HCQ : Box (wq.drew.cell? ⟨gl, n, none⟩ = some (.int .i64 (p : Nat))) := ⟨(World.cell?_of_block (w := w5) (ST2.out.upd.block gl GL.out (by simpa using NL.out))).trans HC0.out⟩
        clear hx hy HA2 RL HA HT m8 m9 h8
        go_upto_region 12 with (fail)
        have CK : Box (wq.drew.cell? ⟨b, 14, none⟩ = some vH) := ⟨cell_of_row _ _ _ _ _ _ ST2.out.row⟩
        have CW : Box (wq.drew.cell? ⟨b, 0, none⟩ = some (.int .i64 32)) := ⟨cell_of_row _ _ _ _ _ _ ST2.out.row⟩
        have HSl : Box (∀ k, vH.ownBlock = some k → k ∈ vH.ownBlock.toList) := ⟨fun k hk => by rw [hk]; simp⟩
        have NB : Box (b ∉ vH.ownBlock.toList) := ⟨fun hm => Own.notK ST2.out.oH ST2.out.row b (by simpa using hm) rfl⟩
        have NG : Box (gl ∉ vH.ownBlock.toList) := ⟨fun hm => by have := (ST2.out.oH.lt gl (by simpa using hm)).1; have := GL.out; omega⟩
        have bw : Box (b < wq.drew.heap.size) := ⟨(Array.getElem?_eq_some_iff.1 ST2.out.row).1⟩
        have gw : Box (gl < wq.drew.heap.size) := ⟨Nat.lt_of_lt_of_le GL.out ST2.out.upd.size⟩
        refine wp_region_mixS vH.ownBlock.toList (fun w => Own w w5.heap.size 92 vH n ((H32.take n).map u64v) ∧ w5.heap.size ≤ w.heap.size) (fun w1 w2 hg h => ⟨h.1.below hg, Nat.le_trans h.2 hg.size⟩) ⟨ST2.out.oH.drew, ST2.out.upd.size⟩ (fun k hk => (ST2.out.oH.lt k (by simpa using hk)).2) 14 [.flo, .flo, .flo, .flo, .flo, .flo, .cha, .flo, .flo, .flo, .flo, .cha, .cha, .flo] (by kernel_rfl) (by kernel_rfl) rfl ?_
        simp only [List.take, List.zip, List.zipWith]
        try go_frame
        refine gm_flo (.pointer (some ⟨b, 14, none⟩)) (fun w1 hw1 => ?_) ?_
        case refine_1 =>
          go_simp
        try go_frame
        refine gm_flo (vH) (fun w1 hw1 => ?_) ?_
        case refine_1 =>
          have hc := cellS hw1 bw.out NB.out CK.out
          go_simp
        try go_frame
        refine gm_flo (.slice (some ⟨gl, 0, none⟩) 64 cl) (fun w1 hw1 => ?_) ?_
        case refine_1 =>
          go_simp
        try go_frame
        refine gm_flo (.int .i64 (n : Nat)) (fun w1 hw1 => ?_) ?_
        case refine_1 =>
          go_simp
        try go_frame
        refine gm_flo (.pointer (some ⟨gl, n, none⟩)) (fun w1 hw1 => ?_) ?_
        case refine_1 =>
          go_simp
        try go_frame
        refine gm_flo (.int .i64 (p : Nat)) (fun w1 hw1 => ?_) ?_
        case refine_1 =>
          have hc := cellS hw1 gw.out NG.out HCQ.out
          go_simp
        try go_frame
        refine gm_call [.int .i64 (p : Nat), .int .i64 2] (by kernel_rfl) rfl rfl (fun _ _ hg h => ⟨h.1.below hg, Nat.le_trans h.2 hg.size⟩) (fun w1 hw1 hF1 => (root_2 p w1 NR.out).mono ?_)
        rintro e w2 ⟨rfl, hw2⟩
        refine ⟨_, rfl, hw2, ?_⟩
        clear hw1 hF1 w1 hw2 w2
        try go_frame
        rw [← HX.out]
        refine gm_flo (.pointer (some ⟨b, 0, none⟩)) (fun w1 hw1 => ?_) ?_
        case refine_1 =>
          go_simp
        try go_frame
        refine gm_flo (.int .i64 32) (fun w1 hw1 => ?_) ?_
        case refine_1 =>
          have hc := cellS hw1 bw.out NB.out CW.out
          go_simp
        try go_frame
        refine gm_flo (.int .i64 32) (fun w1 hw1 => ?_) ?_
        case refine_1 =>
          have hwr : IntKind.i64.wrap 32 = 32 := rfl
          go_simp
        try go_frame
        refine gm_flo (.int .u64 (y : Nat)) (fun w1 hw1 => ?_) ?_
        case refine_1 =>
          go_simp
        try go_frame
        refine gm_one (e := 92) (.tmp 52) rfl (.int .u64 (y : Nat)) rfl (fun _ => by kernel_rfl) (fun _ _ hg h => ⟨h.1.below hg, Nat.le_trans h.2 hg.size⟩) (fun b1 hb1 => ?_)
        try go_frame
        refine gm_app1 (.tmp 43) (.tmp 53) 107 rfl w5.heap.size 92 (.int .u64 0) 8 Try.underlying107 (by kernel_rfl) rfl (vH) (n) ((H32.take n).map u64v) rfl b1 (.int .u64 (y : Nat)) rfl rfl (by omega) (by omega) HSl.out (fun w1 hw1 h => ⟨h.1.1, h.1.2, (cell_of_row _ _ _ _ _ _ h.2).trans rfl⟩) (fun v' hv' hv2 => ?_)
        try go_frame
        refine gm_flo (.pointer (some ⟨b, 14, none⟩)) (fun w1 hw1 => ?_) ?_
        case refine_1 =>
          go_simp
        try go_frame
        refine gm_nil ?_
        intro w9 hw9 hF9
        simp only [List.drop]
        try go_frame
        obtain ⟨g2, cap2, rfl, _, _, _, _⟩ := hF9.cells hv'
        have hf : w9.frozen? ⟨b, 14, none⟩ = false := frozen_of_row _ _ _ _ _ (hw9.at NB.out (show wq.drew.heap[b]? = _ from ST2.out.row))
        have hcc : w9.cell? ⟨b, 14, none⟩ = some vH := cellS hw9 bw.out NB.out CK.out
        have ST3 : Box (OSt w5 b 32 sh256 (.slice (some ⟨g', 0, none⟩) (n + 1) cap') (.slice (some ⟨g2, 0, none⟩) (n + 1) cap2) (n + 1) (n + 1) (K32.take (n + 1)) (H32.take (n + 1)) (w9.setCell ⟨b, 14, none⟩ (.slice (some ⟨g2, 0, none⟩) (n + 1) cap2))) := ⟨by
          rw [HT2.out, ← HY.out]; exact ST2.out.drew.addH hw9 hF9 hv2 B5.out⟩
        clear hw9 hF9 hv2 hv' CK CW HSl NB NG bw gw ST2 HX HY HT2 hsh HCQ
        go_wp2_with fail
        exact ⟨⟨n + 1, by omega, by go_num, _, _, by rw [M9.out]; exact ST3.out, fun _ => ⟨by simp, by simp⟩⟩, by simp [intOf]; omega⟩
      · have h8I : ¬ (n : Int) < 8 := by omega
        have M9 : Box (min (n + 1) 8 = min n 8) := ⟨by omega⟩
        have HTE : Box (H32.take (n + 1) = H32.take n) := ⟨by rw [List.take_of_length_le (by rw [H32_len]; omega), List.take_of_length_le (by rw [H32_len]; omega)]⟩
        have NN2 := Box.mk (NN.out (by omega)).2
        clear HA HT h8
        go_wp2_with fail
        exact ⟨⟨n + 1, by omega, by go_num, _, _, by rw [M9.out, HTE.out]; exact ST2.out, fun _ => ⟨by simp, NN2.out⟩⟩, by simp [intOf]; omega⟩
    · obtain rfl : n = 64 := by omega
      have NN := Box.mk (NN.out (by omega))
      have ST : Box (OSt w5 b 32 sh256 vK vH 64 8 K32 H32 wr) := ⟨by
        have := ST.out
        rwa [List.take_of_length_le (by rw [K32_len]; omega), List.take_of_length_le (by rw [H32_len]; omega)] at this⟩
      have NE2 : Box (b2 ∉ [b]) := ⟨by simpa using Ne.symm NE.out⟩
      have R2w : Box (wr.heap[b2]? = some (.cells (kc kz) 109 (0, 0))) := ⟨(ST.out.upd.block b2 (Array.getElem?_eq_some_iff.1 R25.out).1 NE2.out).trans R25.out⟩
      have HONE : Box ((kc ⟨32, sh256, vK, vH⟩).all (·.oneCell') = true) := ⟨by
        obtain ⟨g1, c1, h1, _⟩ := ST.out.oK.cells NN.out.1
        obtain ⟨g2, c2, h2, _⟩ := ST.out.oH.cells NN.out.2
        exact kc_one _ (by show vK.oneCell' = true; rw [h1]; rfl) (by show vH.oneCell' = true; rw [h2]; rfl)⟩
      clear hlt hn
      go_upto_region 13 with (fail)
      refine wp_region_seq 1 [.flo] (by rfl) rfl (by decide) ?_
      simp only [List.take, List.zip, List.zipWith]
      try go_frame
      refine gm_loadK (.tmp 3) rfl b ⟨32, sh256, vK, vH⟩ ST.out.row (by simp) rfl ?_
      try go_frame
      refine gm_nil ?_
      intro w9 hw9 hF9
      simp only [List.drop]
      try go_frame
      have R9 := Box.mk (hw9.block R2w.out)
      have RK := Box.mk (show (w9.setRow b2 (kc ⟨32, sh256, vK, vH⟩)).heap[b2]? = some (.cells (kc ⟨32, sh256, vK, vH⟩) 109 (0, 0)) from setRow_heap _ _ _ _ _ _ R9.out)
      have OK9 : Box (Own (w9.setRow b2 (kc ⟨32, sh256, vK, vH⟩)) w5.heap.size 92 vK 64 (K32.map u64v)) := ⟨(ST.out.oK.below hw9).keep fun k hk => setRow_other _ _ _ _ (Own.notK (ST.out.oK.below hw9) R9.out k hk)⟩
      have OH9 : Box (Own (w9.setRow b2 (kc ⟨32, sh256, vK, vH⟩)) w5.heap.size 92 vH 8 (H32.map u64v)) := ⟨(ST.out.oH.below hw9).keep fun k hk => setRow_other _ _ _ _ (Own.notK (ST.out.oH.below hw9) R9.out k hk)⟩
      have BL : Box (Below w.heap.size w (w9.setRow b2 (kc ⟨32, sh256, vK, vH⟩))) := ⟨below_setRow ((Upd.below HW5.out ST.out.upd (by intro i hi; simp at hi; subst hi; exact GB.out) HW5.out.size).trans (hw9.below.mono (Nat.le_trans HW5.out.size ST.out.upd.size))) G2.out _⟩
      have SZ : Box (w.heap.size ≤ w5.heap.size) := ⟨HW5.out.size⟩
      clear hw9 hF9
      refine wpList_storeK rfl (.tmp 2) (.tmp 56) rfl b2 ⟨32, sh256, vK, vH⟩ kz HONE.out R9.out rfl rfl ?_
      generalize w9.setRow b2 (kc ⟨32, sh256, vK, vH⟩) = wz at RK OK9 OH9 BL ⊢
      go_wp2_with fail
      refine bodyPost_ret (results_cell_row (p := 2) (ty := 109) rfl _ _ b2 109 (kc ⟨32, sh256, vK, vH⟩) (0, 0) _ rfl RK.out Try.underlying109 rfl (by kernel_rfl)) rfl ⟨vK, vH, rfl, OK9.out.base SZ.out, OH9.out.base SZ.out, NN.out.1, NN.out.2, BL.out⟩
end Go.Proofs.Ytopiopomioglfaa.Big
