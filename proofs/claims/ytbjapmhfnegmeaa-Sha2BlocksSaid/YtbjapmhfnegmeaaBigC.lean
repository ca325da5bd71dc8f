/- The document of sha2: the root. -/
import Derived.Test.YtbjapmhfnegmeaaBigB
import Derived.Test.YtbjapmhfnegmeaaShaM
import Derived.Deep.DeepCutAuto
namespace Go.Proofs.Ytbjapmhfnegmeaa.Big
set_option linter.unusedVariables false
open Go Go.RowKit
open Sha (R3 M160 rmore rstep rloop rootF)

theorem als (w : World) (o : Obj) : (w.alloc o).heap.size = w.heap.size + 1 := by simp
theorem dig2 (r : Nat) : bd r 0 + bd r 1 * 4294967296 = r % 2 ^ 64 := by
  have h0 : bd r 0 = r % 4294967296 := by unfold bd; rw [pw_zero, Nat.div_one]
  have h1 : bd r 1 = r / 4294967296 % 4294967296 := rfl
  rw [h0, h1]; omega
theorem M160_pw : M160 = pw 5 := rfl
theorem one_lt_pw : 1 < pw 5 := by decide
theorem bd_z (i : Nat) : bd 0 i = 0 := by simp [bd]
theorem BigAt.lt {w : World} {p v : Nat} (h : BigAt w p v) : p < w.heap.size := (Array.getElem?_eq_some_iff.1 h).1
theorem BigAt.keep {w w' : World} {p v : Nat} {S : List Nat} (h : BigAt w p v) (u : Upd S w w') (hn : p ∉ S) : BigAt w' p v := (u.block p h.lt hn).trans h
theorem BigAt.alloc {w : World} {p v : Nat} (h : BigAt w p v) (o : Obj) : BigAt (w.alloc o) p v := (Below.heap_alloc _ _ _ h.lt).trans h
theorem BigAt.new (w : World) : BigAt (w.alloc (.cells #[.int .u64 0, .int .u64 0, .int .u64 0, .int .u64 0, .int .u64 0] 78)) w.heap.size 0 := by
  unfold BigAt
  rw [show gcell (bd 0) = #[.int .u64 0, .int .u64 0, .int .u64 0, .int .u64 0, .int .u64 0] by simp [gcell, bd_z]]
  exact heap_alloc_new _ _
/-- The root so far, its square, what is left. -/
structure RSt (w : World) (A r q l : Nat) (wx : World) : Prop where
  a : BigAt wx A r
  b : BigAt wx (A + 1) q
  c : BigAt wx (A + 2) l
  eA : A = w.heap.size
  bel : Below w.heap.size w wx
theorem RSt.onA {w wx w' : World} {A r q l r' : Nat} (h : RSt w A r q l wx) (hb : BigAt w' A r') (u : Upd [A] wx w') : RSt w A r' q l w' :=
  ⟨hb, h.b.keep u (by simp), h.c.keep u (by simp), h.eA, Upd.below h.bel u (by simp [h.eA]) h.bel.size⟩
theorem RSt.onB {w wx w' : World} {A r q l q' : Nat} (h : RSt w A r q l wx) (hb : BigAt w' (A + 1) q') (u : Upd [A + 1] wx w') : RSt w A r q' l w' :=
  ⟨h.a.keep u (by simp), hb, h.c.keep u (by simp), h.eA, Upd.below h.bel u (by simp [h.eA]) h.bel.size⟩
theorem RSt.onC {w wx w' : World} {A r q l l' : Nat} (h : RSt w A r q l wx) (hb : BigAt w' (A + 2) l') (u : Upd [A + 2] wx w') : RSt w A r q l' w' :=
  ⟨h.a.keep u (by simp), h.b.keep u (by simp), hb, h.eA, Upd.below h.bel u (by simp [h.eA]) h.bel.size⟩
theorem RSt.onD {w wx w' : World} {A r q l : Nat} {S : List Nat} (h : RSt w A r q l wx) (u : Upd S wx w') (hS : ∀ i, i ∈ S → A + 2 < i) : RSt w A r q l w' :=
  ⟨h.a.keep u (fun m => by have := hS _ m; omega), h.b.keep u (fun m => by have := hS _ m; omega), h.c.keep u (fun m => by have := hS _ m; omega), h.eA, Upd.below h.bel u (fun i hi => by have := hS _ hi; have := h.eA; omega) h.bel.size⟩
theorem RSt.ltD {w wx : World} {A r q l : Nat} (h : RSt w A r q l wx) : A + 2 < wx.heap.size := h.c.lt
theorem RSt.alloc {w wx : World} {A r q l : Nat} (h : RSt w A r q l wx) (o : Obj) : RSt w A r q l (wx.alloc o) :=
  ⟨h.a.alloc o, h.b.alloc o, h.c.alloc o, h.eA, h.bel.alloc h.bel.size o⟩
/-- The number's next bits. -/
def gN (n p j : Nat) : Nat := if 64 ≤ j then n / 2 ^ (p * (j - 64)) % 2 ^ p else 0
theorem gN_lt (n p j : Nat) (h : p ≤ 3) : gN n p j < 8 := by
  unfold gN
  split
  · have h1 := Nat.mod_lt (n / 2 ^ (p * (j - 64))) (Nat.two_pow_pos p)
    have h2 : 2 ^ p ≤ 2 ^ 3 := Nat.pow_le_pow_right (by omega) h
    omega
  · omega
theorem gN_low (n p j : Nat) (h : j < 64) : gN n p j = 0 := by unfold gN; rw [if_neg (by omega)]
theorem gN_at (n p t : Nat) : gN n p (64 + t) = n / 2 ^ (p * t) % 2 ^ p := by unfold gN; rw [if_pos (by omega), Nat.add_sub_cancel_left]

theorem rl_low (n p j r q l r1 q1 L m : Nat) (hr : r1 = r * 2 % pw 5) (hq : q1 = q * 4 % pw 5) (hl : L = (l * 2 ^ p + gN n p j) % pw 5) (hm : m = rmore p r1 q1) (h : L < m) :
    rloop n p (j + 1) ⟨r, q, l⟩ = rloop n p j ⟨r1, q1, L⟩ := by
  subst hm hl hr hq
  show rloop n p j (rstep n p j ⟨r, q, l⟩) = _
  congr 1
  exact if_pos h
theorem rl_high (n p j r q l r1 q1 L m : Nat) (hr : r1 = r * 2 % pw 5) (hq : q1 = q * 4 % pw 5) (hl : L = (l * 2 ^ p + gN n p j) % pw 5) (hm : m = rmore p r1 q1) (h : m ≤ L) :
    rloop n p (j + 1) ⟨r, q, l⟩ = rloop n p j ⟨(r1 * 1 + 1) % pw 5, ((q1 + r1 * 2) % pw 5 * 1 + 1) % pw 5, L - m⟩ := by
  subst hm hl hr hq
  show rloop n p j (rstep n p j ⟨r, q, l⟩) = _
  congr 1
  exact if_neg (Nat.not_lt.2 h)


theorem gN_2_0 (n : Nat) : gN n 2 64 = n % 4 := by
  have := gN_at n 2 0; simpa using this
theorem gN_2_1 (n : Nat) : gN n 2 65 = n / 4 % 4 := gN_at n 2 1
theorem gN_2_2 (n : Nat) : gN n 2 66 = n / 16 % 4 := gN_at n 2 2
set_option maxRecDepth 100000 in
set_option maxHeartbeats 4000000 in
theorem root_2 (n : Nat) (w : World) (hn : n < 1000) :
    Calls Try.prog 24 #[.int .i64 (n : Nat), .int .i64 2] w fun e w' => e = .returned (.int .u64 (rootF n 2 : Nat)) ∧ Below w.heap.size w w' := by
  obtain ⟨R, hR⟩ : ∃ R, R = rloop n 2 67 ⟨0, 0, 0⟩ := ⟨_, rfl⟩
  obtain ⟨v, hv⟩ : ∃ v, v = rootF n 2 := ⟨_, rfl⟩
  rw [← hv]
  have HR := Box.mk hR; have HN := Box.mk hn; have HV := Box.mk hv
  clear hR hn hv
  go_enter Try.func24, Try.ntmps24
  go_upto_region 2 with (fail)
  obtain ⟨A, hA⟩ : ∃ A, A = w.heap.size := ⟨_, rfl⟩
  have st0 : Box (RSt w A 0 0 0 (((w.alloc (.cells #[.int .u64 0, .int .u64 0, .int .u64 0, .int .u64 0, .int .u64 0] 78)).alloc (.cells #[.int .u64 0, .int .u64 0, .int .u64 0, .int .u64 0, .int .u64 0] 78)).alloc (.cells #[.int .u64 0, .int .u64 0, .int .u64 0, .int .u64 0, .int .u64 0] 78))) := by
    refine ⟨⟨?_, ?_, ?_, hA, (((Below.refl _ _).alloc (Nat.le_refl _) _).alloc ?_ _).alloc ?_ _⟩⟩
    · rw [hA]; exact ((BigAt.new w).alloc _).alloc _
    · have := (BigAt.new (w.alloc (.cells #[.int .u64 0, .int .u64 0, .int .u64 0, .int .u64 0, .int .u64 0] 78))).alloc (.cells #[.int .u64 0, .int .u64 0, .int .u64 0, .int .u64 0, .int .u64 0] 78)
      rw [als, ← hA] at this; exact this
    · have := BigAt.new ((w.alloc (.cells #[.int .u64 0, .int .u64 0, .int .u64 0, .int .u64 0, .int .u64 0] 78)).alloc (.cells #[.int .u64 0, .int .u64 0, .int .u64 0, .int .u64 0, .int .u64 0] 78))
      rw [als, als, ← hA] at this; exact this
    · rw [als]; omega
    · rw [als, als]; omega
  rw [show w.heap.size + 1 + 1 = w.heap.size + 2 from rfl, ← hA]
  clear hA
  generalize ((w.alloc (.cells #[.int .u64 0, .int .u64 0, .int .u64 0, .int .u64 0, .int .u64 0] 78)).alloc (.cells #[.int .u64 0, .int .u64 0, .int .u64 0, .int .u64 0, .int .u64 0] 78)).alloc (.cells #[.int .u64 0, .int .u64 0, .int .u64 0, .int .u64 0, .int .u64 0] 78) = w0 at st0 ⊢
  go_wp2_with fail
  go_loopw [8] (fun i wr => ∃ k : Nat, k ≤ 67 ∧ i = .int .i64 ((k : Int) - 1) ∧ ∃ r q l, rloop n 2 k ⟨r, q, l⟩ = R ∧ RSt w A r q l wr) (fun i _ => (intOf i + 1).toNat)
  case atStart => exact ⟨67, by omega, rfl, 0, 0, 0, HR.out.symm, st0.out⟩
  case round =>
    clear st0
    obtain ⟨k, hk, rfl, r, q, l, hx, st⟩ := hrel
    have HX := Box.mk hx; have st := Box.mk st
    clear hx
    by_cases hlt : 0 < k
    · obtain ⟨j, rfl⟩ : ∃ j, k = j + 1 := ⟨k - 1, by omega⟩
      rw [show ((j + 1 : Nat) : Int) - 1 = (j : Int) from by omega]
      clear hlt
      have GL := Box.mk (gN_lt n 2 j (by omega))
      have hw1 : IntKind.u64.wrap ((gN n 2 j : Nat) : Int) = ((gN n 2 j : Nat) : Int) := by rw [IntKind.wrap_u64]; have := GL.out; omega
      go_upto_if 22 with (fail)
      go_cut [9] (fun v wx => v = .int .i64 ((gN n 2 j : Nat) : Int) ∧ RSt w A r q l wx)
      case first =>
        have hn := HN.out
        by_cases hj : j < 64
        · have hjI : ¬ (64 : Int) ≤ (j : Int) := by omega
          have G0 := Box.mk (gN_low n 2 j hj)
          clear hw1 hj
          go_wp2_with fail
          go_meet
          exact ⟨by rw [G0.out]; rfl, st.out⟩
        · clear hw1
          have hj3 : j = 64 ∨ j = 65 ∨ j = 66 := by omega
          have st2 := Box.mk (st.out.onD (Upd.refl [] _).drew (by simp))
          clear hj
          rcases hj3 with rfl | rfl | rfl
          · have GA : Box (gN n 2 64 = n % 4) := ⟨gN_2_0 n⟩
            go_wp2
            go_region
            go_wp2_with fail
            go_meet
            exact ⟨by rw [GA.out]; go_num, st2.out⟩
          · have GA : Box (gN n 2 65 = n / 4 % 4) := ⟨gN_2_1 n⟩
            go_wp2
            go_region
            go_wp2_with fail
            go_meet
            exact ⟨by rw [GA.out]; go_num, st2.out⟩
          · have GA : Box (gN n 2 66 = n / 16 % 4) := ⟨gN_2_2 n⟩
            go_wp2
            go_region
            go_wp2_with fail
            go_meet
            exact ⟨by rw [GA.out]; go_num, st2.out⟩
      case rest =>
        obtain ⟨rfl, st⟩ := hcut
        have st := Box.mk st
        go_wp2_with fail
        refine (grow_any (A + 2) l 4 (gN n 2 j) _ st.out.c (by omega) (by have := GL.out; omega)).mono ?_
        rintro e w1 ⟨rfl, h1, u1⟩
        have st := Box.mk (st.out.onC h1 u1); clear h1 u1
        go_wp2_with fail
        refine (grow_any A r 2 0 _ st.out.a (by omega) (by omega)).mono ?_
        rintro e w2 ⟨rfl, h2, u2⟩
        rw [Nat.add_zero (r * 2)] at h2
        have st := Box.mk (st.out.onA h2 u2); clear h2 u2
        go_wp2_with fail
        refine (grow_any (A + 1) q 4 0 _ st.out.b (by omega) (by omega)).mono ?_
        rintro e w3 ⟨rfl, h3, u3⟩
        rw [Nat.add_zero (q * 4)] at h3
        have st := Box.mk (st.out.onB h3 u3); clear h3 u3
        obtain ⟨L, hL⟩ : ∃ L, L = (l * 4 + gN n 2 j) % pw 5 := ⟨_, rfl⟩
        obtain ⟨r1, hr1⟩ : ∃ x, x = r * 2 % pw 5 := ⟨_, rfl⟩
        obtain ⟨q1, hq1⟩ : ∃ x, x = q * 4 % pw 5 := ⟨_, rfl⟩
        rw [← hL, ← hr1, ← hq1] at st
        have HL := Box.mk hL; have HR1 := Box.mk hr1; have HQ1 := Box.mk hq1
        have bL : Box (L < pw 5) := ⟨by rw [hL]; exact Nat.mod_lt _ (pw_pos 5)⟩
        clear hL hr1 hq1
        go_wp2_with fail
        have hD := Box.mk st.out.ltD
        have st := Box.mk (st.out.alloc (.cells #[.int .u64 0, .int .u64 0, .int .u64 0, .int .u64 0, .int .u64 0] 78))
        have dt := Box.mk (BigAt.new w3)
        obtain ⟨D, hDD⟩ : ∃ D, D = w3.heap.size := ⟨_, rfl⟩
        rw [← hDD] at hD dt ⊢
        clear hDD
        refine (grow_any D 0 1 1 _ dt.out (by omega) (by omega)).mono ?_
        rintro e w4 ⟨rfl, h4, u4⟩
        rw [show (0 * 1 + 1) % pw 5 = 1 from Nat.mod_eq_of_lt one_lt_pw] at h4
        have st := Box.mk (st.out.onD u4 (by intro i hi; have := hD.out; simp at hi; omega))
        have dt := Box.mk h4; clear h4 u4
        go_wp2_with fail
        refine (plus_any D A 1 r1 2 _ dt.out st.out.a (by have := hD.out; omega) (by omega)).mono ?_
        rintro e w5 ⟨rfl, h5, u5⟩
        have st := Box.mk (st.out.onD u5 (by intro i hi; have := hD.out; simp at hi; omega))
        have dt := Box.mk h5; clear h5 u5
        obtain ⟨m, hm⟩ : ∃ x, x = (1 + r1 * 2) % pw 5 := ⟨_, rfl⟩
        rw [← hm] at dt
        have bm : Box (m < pw 5) := ⟨by rw [hm]; exact Nat.mod_lt _ (pw_pos 5)⟩
        have HM : Box (m = rmore 2 r1 q1) := ⟨by rw [hm]; rfl⟩
        clear hm
        have hbe := fun wx h1 h2 => below_any (A + 2) D L m wx h1 h2 bL.out bm.out
        by_cases hlm : L < m
        · rw [decide_eq_true hlm] at hbe
          have HLM := Box.mk hlm; clear hlm
          have hbe := Box.mk hbe
          go_wp2_with fail
          refine (hbe.out _ st.out.c dt.out).mono ?_
          rintro e w7 ⟨rfl, u7⟩
          have st := Box.mk (st.out.onD u7 (by simp))
          clear u7 hbe
          go_wp2_with fail
          refine ⟨⟨j, by omega, by go_num, r1, q1, L, ?_, st.out⟩, by simp [intOf]⟩
          rw [← HX.out]; exact (rl_low n 2 j r q l r1 q1 L m HR1.out HQ1.out HL.out HM.out HLM.out).symm
        · rw [decide_eq_false hlm] at hbe
          have HLM := Box.mk (show m ≤ L by omega); clear hlm
          have hbe := Box.mk hbe
          go_wp2_with fail
          refine (hbe.out _ st.out.c dt.out).mono ?_
          rintro e w7 ⟨rfl, u7⟩
          have st := Box.mk (st.out.onD u7 (by simp))
          have dt := Box.mk (dt.out.keep u7 (by simp))
          clear u7 hbe
          go_wp2_with fail
          refine (less_any (A + 2) D L m _ st.out.c dt.out (by have := hD.out; omega) HLM.out).mono ?_
          rintro e w8 ⟨rfl, h8, u8⟩
          have st := Box.mk (st.out.onC h8 u8); clear h8 u8 dt
          go_wp2_with fail
          refine (plus_any (A + 1) A q1 r1 2 _ st.out.b st.out.a (by omega) (by omega)).mono ?_
          rintro e w9 ⟨rfl, h9, u9⟩
          have st := Box.mk (st.out.onB h9 u9); clear h9 u9
          go_wp2_with fail
          refine (grow_any (A + 1) ((q1 + r1 * 2) % pw 5) 1 1 _ st.out.b (by omega) (by omega)).mono ?_
          rintro e w10 ⟨rfl, h10, u10⟩
          have st := Box.mk (st.out.onB h10 u10); clear h10 u10
          go_wp2_with fail
          refine (grow_any A r1 1 1 _ st.out.a (by omega) (by omega)).mono ?_
          rintro e w11 ⟨rfl, h11, u11⟩
          have st := Box.mk (st.out.onA h11 u11); clear h11 u11
          go_wp2_with fail
          refine ⟨⟨j, by omega, by go_num, (r1 * 1 + 1) % pw 5, ((q1 + r1 * 2) % pw 5 * 1 + 1) % pw 5, L - m, ?_, st.out⟩, by simp [intOf]⟩
          rw [← HX.out]; exact (rl_high n 2 j r q l r1 q1 L m HR1.out HQ1.out HL.out HM.out HLM.out).symm
    · obtain rfl : k = 0 := by omega
      have HX2 : Box (r = R.r) := ⟨by rw [← HX.out]; rfl⟩
      clear hlt
      have c0 : wr.cell? ⟨A, 0, none⟩ = some (.int .u64 (bd r 0 : Nat)) := by
        rw [cell_of_row _ _ _ _ _ _ st.out.a, gcell_get _ _ (by omega)]
      have c1 : wr.cell? ⟨A, 1, none⟩ = some (.int .u64 (bd r 1 : Nat)) := by
        rw [cell_of_row _ _ _ _ _ _ st.out.a, gcell_get _ _ (by omega)]
      have h0 := bd_lt r 0; have h1 := bd_lt r 1
      have HV : Box (bd r 0 + bd r 1 * 4294967296 = v) := ⟨by
        rw [HV.out]; unfold rootF; rw [← HR.out, ← HX2.out]; exact dig2 r⟩
      obtain ⟨a, ha⟩ : ∃ a, a = bd r 0 := ⟨_, rfl⟩
      obtain ⟨b, hb⟩ : ∃ a, a = bd r 1 := ⟨_, rfl⟩
      rw [← ha] at c0 h0 HV
      rw [← hb] at c1 h1 HV
      clear ha hb
      have hv := HV.out
      obtain ⟨c, hc⟩ : ∃ c, c = b * 4294967296 := ⟨_, rfl⟩
      have hw1 : IntKind.u64.wrap ((b : Int) * 4294967296) = (c : Int) := by rw [IntKind.wrap_u64]; omega
      have hw2 : IntKind.u64.wrap ((a : Int) + (c : Int)) = (v : Int) := by rw [IntKind.wrap_u64]; omega
      clear hv hc h0 h1
      go_wp2
      go_quiet (fail)
      go_wp2
      go_ret
      exact ⟨rfl, Upd.below st.out.bel ((Upd.refl [] _).drewN _) (by simp) st.out.bel.size⟩

theorem gN_3_0 (n : Nat) : gN n 3 64 = n % 8 := by
  have := gN_at n 3 0; simpa using this
theorem gN_3_1 (n : Nat) : gN n 3 65 = n / 8 % 8 := gN_at n 3 1
theorem gN_3_2 (n : Nat) : gN n 3 66 = n / 64 % 8 := gN_at n 3 2
set_option maxRecDepth 100000 in
set_option maxHeartbeats 4000000 in
theorem root_3 (n : Nat) (w : World) (hn : n < 1000) :
    Calls Try.prog 24 #[.int .i64 (n : Nat), .int .i64 3] w fun e w' => e = .returned (.int .u64 (rootF n 3 : Nat)) ∧ Below w.heap.size w w' := by
  obtain ⟨R, hR⟩ : ∃ R, R = rloop n 3 67 ⟨0, 0, 0⟩ := ⟨_, rfl⟩
  obtain ⟨v, hv⟩ : ∃ v, v = rootF n 3 := ⟨_, rfl⟩
  rw [← hv]
  have HR := Box.mk hR; have HN := Box.mk hn; have HV := Box.mk hv
  clear hR hn hv
  go_enter Try.func24, Try.ntmps24
  go_upto_region 2 with (fail)
  obtain ⟨A, hA⟩ : ∃ A, A = w.heap.size := ⟨_, rfl⟩
  have st0 : Box (RSt w A 0 0 0 (((w.alloc (.cells #[.int .u64 0, .int .u64 0, .int .u64 0, .int .u64 0, .int .u64 0] 78)).alloc (.cells #[.int .u64 0, .int .u64 0, .int .u64 0, .int .u64 0, .int .u64 0] 78)).alloc (.cells #[.int .u64 0, .int .u64 0, .int .u64 0, .int .u64 0, .int .u64 0] 78))) := by
    refine ⟨⟨?_, ?_, ?_, hA, (((Below.refl _ _).alloc (Nat.le_refl _) _).alloc ?_ _).alloc ?_ _⟩⟩
    · rw [hA]; exact ((BigAt.new w).alloc _).alloc _
    · have := (BigAt.new (w.alloc (.cells #[.int .u64 0, .int .u64 0, .int .u64 0, .int .u64 0, .int .u64 0] 78))).alloc (.cells #[.int .u64 0, .int .u64 0, .int .u64 0, .int .u64 0, .int .u64 0] 78)
      rw [als, ← hA] at this; exact this
    · have := BigAt.new ((w.alloc (.cells #[.int .u64 0, .int .u64 0, .int .u64 0, .int .u64 0, .int .u64 0] 78)).alloc (.cells #[.int .u64 0, .int .u64 0, .int .u64 0, .int .u64 0, .int .u64 0] 78))
      rw [als, als, ← hA] at this; exact this
    · rw [als]; omega
    · rw [als, als]; omega
  rw [show w.heap.size + 1 + 1 = w.heap.size + 2 from rfl, ← hA]
  clear hA
  generalize ((w.alloc (.cells #[.int .u64 0, .int .u64 0, .int .u64 0, .int .u64 0, .int .u64 0] 78)).alloc (.cells #[.int .u64 0, .int .u64 0, .int .u64 0, .int .u64 0, .int .u64 0] 78)).alloc (.cells #[.int .u64 0, .int .u64 0, .int .u64 0, .int .u64 0, .int .u64 0] 78) = w0 at st0 ⊢
  go_wp2_with fail
  go_loopw [8] (fun i wr => ∃ k : Nat, k ≤ 67 ∧ i = .int .i64 ((k : Int) - 1) ∧ ∃ r q l, rloop n 3 k ⟨r, q, l⟩ = R ∧ RSt w A r q l wr) (fun i _ => (intOf i + 1).toNat)
  case atStart => exact ⟨67, by omega, rfl, 0, 0, 0, HR.out.symm, st0.out⟩
  case round =>
    clear st0
    obtain ⟨k, hk, rfl, r, q, l, hx, st⟩ := hrel
    have HX := Box.mk hx; have st := Box.mk st
    clear hx
    by_cases hlt : 0 < k
    · obtain ⟨j, rfl⟩ : ∃ j, k = j + 1 := ⟨k - 1, by omega⟩
      rw [show ((j + 1 : Nat) : Int) - 1 = (j : Int) from by omega]
      clear hlt
      have GL := Box.mk (gN_lt n 3 j (by omega))
      have hw1 : IntKind.u64.wrap ((gN n 3 j : Nat) : Int) = ((gN n 3 j : Nat) : Int) := by rw [IntKind.wrap_u64]; have := GL.out; omega
      go_upto_if 22 with (fail)
      go_cut [9] (fun v wx => v = .int .i64 ((gN n 3 j : Nat) : Int) ∧ RSt w A r q l wx)
      case first =>
        have hn := HN.out
        by_cases hj : j < 64
        · have hjI : ¬ (64 : Int) ≤ (j : Int) := by omega
          have G0 := Box.mk (gN_low n 3 j hj)
          clear hw1 hj
          go_wp2_with fail
          go_meet
          exact ⟨by rw [G0.out]; rfl, st.out⟩
        · clear hw1
          have hj3 : j = 64 ∨ j = 65 ∨ j = 66 := by omega
          have st2 := Box.mk (st.out.onD (Upd.refl [] _).drew (by simp))
          clear hj
          rcases hj3 with rfl | rfl | rfl
          · have GA : Box (gN n 3 64 = n % 8) := ⟨gN_3_0 n⟩
            go_wp2
            go_region
            go_wp2_with fail
            go_meet
            exact ⟨by rw [GA.out]; go_num, st2.out⟩
          · have GA : Box (gN n 3 65 = n / 8 % 8) := ⟨gN_3_1 n⟩
            go_wp2
            go_region
            go_wp2_with fail
            go_meet
            exact ⟨by rw [GA.out]; go_num, st2.out⟩
          · have GA : Box (gN n 3 66 = n / 64 % 8) := ⟨gN_3_2 n⟩
            go_wp2
            go_region
            go_wp2_with fail
            go_meet
            exact ⟨by rw [GA.out]; go_num, st2.out⟩
      case rest =>
        obtain ⟨rfl, st⟩ := hcut
        have st := Box.mk st
        go_wp2_with fail
        refine (grow_any (A + 2) l 8 (gN n 3 j) _ st.out.c (by omega) (by have := GL.out; omega)).mono ?_
        rintro e w1 ⟨rfl, h1, u1⟩
        have st := Box.mk (st.out.onC h1 u1); clear h1 u1
        go_wp2_with fail
        refine (grow_any A r 2 0 _ st.out.a (by omega) (by omega)).mono ?_
        rintro e w2 ⟨rfl, h2, u2⟩
        rw [Nat.add_zero (r * 2)] at h2
        have st := Box.mk (st.out.onA h2 u2); clear h2 u2
        go_wp2_with fail
        refine (grow_any (A + 1) q 4 0 _ st.out.b (by omega) (by omega)).mono ?_
        rintro e w3 ⟨rfl, h3, u3⟩
        rw [Nat.add_zero (q * 4)] at h3
        have st := Box.mk (st.out.onB h3 u3); clear h3 u3
        obtain ⟨L, hL⟩ : ∃ L, L = (l * 8 + gN n 3 j) % pw 5 := ⟨_, rfl⟩
        obtain ⟨r1, hr1⟩ : ∃ x, x = r * 2 % pw 5 := ⟨_, rfl⟩
        obtain ⟨q1, hq1⟩ : ∃ x, x = q * 4 % pw 5 := ⟨_, rfl⟩
        rw [← hL, ← hr1, ← hq1] at st
        have HL := Box.mk hL; have HR1 := Box.mk hr1; have HQ1 := Box.mk hq1
        have bL : Box (L < pw 5) := ⟨by rw [hL]; exact Nat.mod_lt _ (pw_pos 5)⟩
        clear hL hr1 hq1
        go_wp2_with fail
        have hD := Box.mk st.out.ltD
        have st := Box.mk (st.out.alloc (.cells #[.int .u64 0, .int .u64 0, .int .u64 0, .int .u64 0, .int .u64 0] 78))
        have dt := Box.mk (BigAt.new w3)
        obtain ⟨D, hDD⟩ : ∃ D, D = w3.heap.size := ⟨_, rfl⟩
        rw [← hDD] at hD dt ⊢
        clear hDD
        refine (grow_any D 0 1 1 _ dt.out (by omega) (by omega)).mono ?_
        rintro e w4 ⟨rfl, h4, u4⟩
        rw [show (0 * 1 + 1) % pw 5 = 1 from Nat.mod_eq_of_lt one_lt_pw] at h4
        have st := Box.mk (st.out.onD u4 (by intro i hi; have := hD.out; simp at hi; omega))
        have dt := Box.mk h4; clear h4 u4
        go_wp2_with fail
        refine (plus_any D A 1 r1 3 _ dt.out st.out.a (by have := hD.out; omega) (by omega)).mono ?_
        rintro e w5 ⟨rfl, h5, u5⟩
        have st := Box.mk (st.out.onD u5 (by intro i hi; have := hD.out; simp at hi; omega))
        have dt := Box.mk h5; clear h5 u5
        go_wp2_with fail
        refine (plus_any D (A + 1) ((1 + r1 * 3) % pw 5) q1 3 _ dt.out st.out.b (by have := hD.out; omega) (by omega)).mono ?_
        rintro e w6 ⟨rfl, h6, u6⟩
        have st := Box.mk (st.out.onD u6 (by intro i hi; have := hD.out; simp at hi; omega))
        have dt := Box.mk h6; clear h6 u6
        obtain ⟨m, hm⟩ : ∃ x, x = ((1 + r1 * 3) % pw 5 + q1 * 3) % pw 5 := ⟨_, rfl⟩
        rw [← hm] at dt
        have bm : Box (m < pw 5) := ⟨by rw [hm]; exact Nat.mod_lt _ (pw_pos 5)⟩
        have HM : Box (m = rmore 3 r1 q1) := ⟨by rw [hm]; rfl⟩
        clear hm
        have hbe := fun wx h1 h2 => below_any (A + 2) D L m wx h1 h2 bL.out bm.out
        by_cases hlm : L < m
        · rw [decide_eq_true hlm] at hbe
          have HLM := Box.mk hlm; clear hlm
          have hbe := Box.mk hbe
          go_wp2_with fail
          refine (hbe.out _ st.out.c dt.out).mono ?_
          rintro e w7 ⟨rfl, u7⟩
          have st := Box.mk (st.out.onD u7 (by simp))
          clear u7 hbe
          go_wp2_with fail
          refine ⟨⟨j, by omega, by go_num, r1, q1, L, ?_, st.out⟩, by simp [intOf]⟩
          rw [← HX.out]; exact (rl_low n 3 j r q l r1 q1 L m HR1.out HQ1.out HL.out HM.out HLM.out).symm
        · rw [decide_eq_false hlm] at hbe
          have HLM := Box.mk (show m ≤ L by omega); clear hlm
          have hbe := Box.mk hbe
          go_wp2_with fail
          refine (hbe.out _ st.out.c dt.out).mono ?_
          rintro e w7 ⟨rfl, u7⟩
          have st := Box.mk (st.out.onD u7 (by simp))
          have dt := Box.mk (dt.out.keep u7 (by simp))
          clear u7 hbe
          go_wp2_with fail
          refine (less_any (A + 2) D L m _ st.out.c dt.out (by have := hD.out; omega) HLM.out).mono ?_
          rintro e w8 ⟨rfl, h8, u8⟩
          have st := Box.mk (st.out.onC h8 u8); clear h8 u8 dt
          go_wp2_with fail
          refine (plus_any (A + 1) A q1 r1 2 _ st.out.b st.out.a (by omega) (by omega)).mono ?_
          rintro e w9 ⟨rfl, h9, u9⟩
          have st := Box.mk (st.out.onB h9 u9); clear h9 u9
          go_wp2_with fail
          refine (grow_any (A + 1) ((q1 + r1 * 2) % pw 5) 1 1 _ st.out.b (by omega) (by omega)).mono ?_
          rintro e w10 ⟨rfl, h10, u10⟩
          have st := Box.mk (st.out.onB h10 u10); clear h10 u10
          go_wp2_with fail
          refine (grow_any A r1 1 1 _ st.out.a (by omega) (by omega)).mono ?_
          rintro e w11 ⟨rfl, h11, u11⟩
          have st := Box.mk (st.out.onA h11 u11); clear h11 u11
          go_wp2_with fail
          refine ⟨⟨j, by omega, by go_num, (r1 * 1 + 1) % pw 5, ((q1 + r1 * 2) % pw 5 * 1 + 1) % pw 5, L - m, ?_, st.out⟩, by simp [intOf]⟩
          rw [← HX.out]; exact (rl_high n 3 j r q l r1 q1 L m HR1.out HQ1.out HL.out HM.out HLM.out).symm
    · obtain rfl : k = 0 := by omega
      have HX2 : Box (r = R.r) := ⟨by rw [← HX.out]; rfl⟩
      clear hlt
      have c0 : wr.cell? ⟨A, 0, none⟩ = some (.int .u64 (bd r 0 : Nat)) := by
        rw [cell_of_row _ _ _ _ _ _ st.out.a, gcell_get _ _ (by omega)]
      have c1 : wr.cell? ⟨A, 1, none⟩ = some (.int .u64 (bd r 1 : Nat)) := by
        rw [cell_of_row _ _ _ _ _ _ st.out.a, gcell_get _ _ (by omega)]
      have h0 := bd_lt r 0; have h1 := bd_lt r 1
      have HV : Box (bd r 0 + bd r 1 * 4294967296 = v) := ⟨by
        rw [HV.out]; unfold rootF; rw [← HR.out, ← HX2.out]; exact dig2 r⟩
      obtain ⟨a, ha⟩ : ∃ a, a = bd r 0 := ⟨_, rfl⟩
      obtain ⟨b, hb⟩ : ∃ a, a = bd r 1 := ⟨_, rfl⟩
      rw [← ha] at c0 h0 HV
      rw [← hb] at c1 h1 HV
      clear ha hb
      have hv := HV.out
      obtain ⟨c, hc⟩ : ∃ c, c = b * 4294967296 := ⟨_, rfl⟩
      have hw1 : IntKind.u64.wrap ((b : Int) * 4294967296) = (c : Int) := by rw [IntKind.wrap_u64]; omega
      have hw2 : IntKind.u64.wrap ((a : Int) + (c : Int)) = (v : Int) := by rw [IntKind.wrap_u64]; omega
      clear hv hc h0 h1
      go_wp2
      go_quiet (fail)
      go_wp2
      go_ret
      exact ⟨rfl, Upd.below st.out.bel ((Upd.refl [] _).drewN _) (by simp) st.out.bel.size⟩
end Go.Proofs.Ytbjapmhfnegmeaa.Big
