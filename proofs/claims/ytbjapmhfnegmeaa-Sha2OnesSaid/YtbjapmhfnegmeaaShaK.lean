/- SHA-2: the state of a sum that goes on; New, Write, Sum: words of 32 bits. -/
import Derived.Test.YtbjapmhfnegmeaaShaI
import Derived.Test.YtbjapmhfnegmeaaOwn
import Derived.Test.YtbjapmhfnegmeaaMul
namespace Go.Proofs.Ytbjapmhfnegmeaa
set_option linter.unusedVariables false
open Go Go.RowKit Sha

theorem pad_zeros32 (n r : Nat) (h : r = n % 64) : zeros 64 n < 64 ∧ (r + 1 + zeros 64 n) % 64 = 56 ∧ ∀ j, j < zeros 64 n → (r + 1 + j) % 64 ≠ 56 := by
  subst h
  unfold zeros
  refine ⟨by omega, by omega, fun j hj => by omega⟩
theorem pad32_eq (n : Nat) (hn : n ≤ 1000000) : padB 64 n = (128 : UInt8) :: (List.replicate (zeros 64 n + 0) 0 ++ bytesOf (8 * n) 8) := by
  unfold padB
  rfl
theorem ask32_eq (st : St) : k256.ask st = (blks 64 k256.step st.v (st.r ++ padB 64 st.n)).1.list.flatMap fun x => bytesOf x 4 := rfl
set_option maxRecDepth 100000 in
set_option maxHeartbeats 4000000 in
theorem sum32_any (p : Nat) (st : St) (w : World) (h : St32 w p st) (hn : st.n ≤ 900000) :
    Calls Try.prog 13 #[.pointer (some ⟨p, 0, none⟩)] w fun e w' => e = .returned (.string ⟨(k256.ask st).toArray⟩) ∧ Below w.heap.size w w' := by
  obtain ⟨O, r, hg, hr, hok, hl⟩ := h
  have lp := (Array.getElem?_eq_some_iff.1 hg).1
  obtain ⟨hz1, hz2, hz3⟩ := pad_zeros32 st.n st.r.length hl
  obtain ⟨Z, hZ⟩ : ∃ Z, Z = zeros 64 st.n := ⟨_, rfl⟩
  rw [← hZ] at hz1 hz2 hz3
  obtain ⟨W1, hW1⟩ : ∃ W1, W1 = w.alloc (.cells (hc32 0 st.v O r st.n) 52) := ⟨_, rfl⟩
  have hcl := clone_any p _ _ _ r st.n w hg
  rw [show w.alloc (.cells (hcells _ _ _ r (st.n : Int)) 52) = W1 from hW1.symm] at hcl
  replace hcl := hcl.mono fun e w' ⟨a, b⟩ => (⟨a, b.symm⟩ : e = Ending.returned (.pointer (some ⟨w.heap.size, 0, none⟩)) ∧ W1 = w')
  have z1 : W1.heap.size = w.heap.size + 1 := by rw [hW1]; simp
  have g1 : Hs32 W1 w.heap.size st.v O r st.n := by rw [hW1]; exact heap_alloc_new _ _
  have gp : Hs32 W1 p st.v O r st.n := by rw [hW1]; exact (heap_alloc_old _ _ lp).trans hg
  have b1 : Below w.heap.size w W1 := by rw [hW1]; exact (Below.refl _ _).alloc (Nat.le_refl _) _
  have k17 := cell_of_row _ _ 17 _ _ _ g1
  simp [hc32, hcells] at k17
  have hrl : r.size = st.r.length := by rw [← size_list, hr]
  have hrb : st.r.length < 64 := by omega
  obtain ⟨cap, C, fr, hcv, hown⟩ := run_tobytes (P := Try.prog) 9 36 5 r Try.underlying9 Try.underlying36 Try.underlying5 (by omega) (w.heap.size + 1) W1 (by omega)
  rw [hr, hrl] at hown
  rw [hrl] at hcv
  have HCL := Box.mk hcl; have G1 := Box.mk g1; have GP := Box.mk gp; have B1 := Box.mk b1; have HOWN := Box.mk hown; have HZ := Box.mk hZ; have HL := Box.mk hl; have HOK := Box.mk hok; have Z1 := Box.mk z1; have HRL := Box.mk hrl
  have hB0 : ∀ D, Below (w.heap.size + 1) W1 ((W1.alloc (.cells C 5 fr)).alloc D).drew := fun D => (((Below.refl _ _).alloc (by omega) _).alloc (by simp; omega) _).drew
  have hsz0 : ∀ D, w.heap.size + 1 ≤ ((W1.alloc (.cells C 5 fr)).alloc D).drew.heap.size := fun D => by simp; omega
  have hc0 : ∀ (A : Obj) (y : Value), ((W1.alloc A).alloc (.cells #[y] 5)).drew.cell? ⟨W1.heap.size + 1, 0, none⟩ = some y := fun A y => by
    have := heap_alloc_new (W1.alloc A) (.cells #[y] 5)
    rw [World.size_alloc] at this
    exact (cell_of_row (W1.alloc A |>.alloc _) _ 0 _ _ _ this)
  have HB0 := Box.mk hB0; have HSZ0 := Box.mk hsz0; have HC0 := Box.mk hc0
  clear hB0 hsz0 hc0
  have HZ2 := Box.mk hz2; have HZ3 := Box.mk hz3
  clear hcl g1 gp b1 hown hZ hl hok hW1 hg hr z1 hz2 hz3 hrl
  go_enter Try.func13, Try.ntmps13
  go_wp2_with (first
    | (go_at_call 11; refine HCL.out.mono ?_; rintro e w' ⟨rfl, rfl⟩)
    | (at_builtin; refine wpList_app1 (w0 := W1) rfl (.tmp 15) (.tmp 16) 36 rfl (w.heap.size + 1) 5 (.int .u8 0) 1 Try.underlying36 (by kernel_rfl) rfl (.slice (some ⟨W1.heap.size, 0, none⟩) st.r.length cap) st.r.length (st.r.map byv) rfl (HOWN.out.alloc _).drew (HB0.out _) (HSZ0.out _) (W1.heap.size + 1) (.int .u8 128) rfl (HC0.out _ _) rfl (by omega) (by omega) ?_))
  intro v1 w1 hown1 hbel1 hsz1 _ hnn1
  have HO1 := Box.mk hown1; have HB1 := Box.mk hbel1; have HNN1 := Box.mk hnn1; have HSZ1 := Box.mk hsz1
  clear hown1 hbel1 hnn1 hsz1 HOWN HCL hcv k17 HC0 HB0 HSZ0
  obtain ⟨g1, cap1, rfl, _⟩ := HO1.out.cells HNN1.out
  clear HNN1
  go_wp2_with fail
  go_loopw [4] (fun b wr => ∃ N g cap : Nat, st.r.length + 1 ≤ N ∧ N ≤ st.r.length + 1 + Z ∧ b = .slice (some ⟨g, 0, none⟩) N cap ∧ Own wr (w.heap.size + 1) 5 b N ((rowS st (N - st.r.length - 1) 0).map byv) ∧ Below (w.heap.size + 1) W1 wr ∧ w.heap.size + 1 ≤ wr.heap.size) (fun b _ => match b with | .slice _ n _ => 1000 - n | _ => 0)
  case atStart => exact ⟨_, g1, cap1, Nat.le_refl _, by omega, rfl, by have := HO1.out; simpa [rowS, byv] using this, HB1.out, HSZ1.out⟩
  case round =>
    clear HO1 HB1 HSZ1
    obtain ⟨N, g, cap, hN1, hN2, rfl, hown, hbel, hsz⟩ := hrel
    have gp : Hs32 wr p st.v O r st.n := (hbel.block p (by have := Z1.out; omega)).trans GP.out
    have GPR := Box.mk gp; have HO := Box.mk hown; have HB := Box.mk hbel
    clear gp hown hbel
    obtain ⟨q, hq⟩ : ∃ q, q = N % 64 := ⟨_, rfl⟩
    have m1 : (N : Int).tmod 64 = (q : Int) := by rw [Int.tmod_eq_emod_of_nonneg (by omega)]; omega
    have m2 : IntKind.i64.wrap (q : Int) = (q : Int) := by rw [IntKind.wrap_i64]; omega
    have m3 : (64 : Int).tdiv 8 = 8 := by decide
    have m4 : IntKind.i64.wrap 8 = 8 := by rw [IntKind.wrap_i64]; omega
    have m5 : IntKind.i64.wrap (64 - 8) = 56 := by rw [IntKind.wrap_i64]; omega
    by_cases hlt : N < st.r.length + 1 + Z
    · have hne : q ≠ 56 := by
        have := HZ3.out (N - st.r.length - 1) (by omega)
        rw [show st.r.length + 1 + (N - st.r.length - 1) = N from by omega] at this
        rw [hq]; exact this
      have hneB : ((q : Int) != 56) = true := by simp; omega
      clear hne
      have HQ := Box.mk hq; clear hq
      go_wp2_with fail
      go_quiet ((go_at_call 19; exact quiet_calls (long32_any p _ _ _ _ _ GPR.out)))
      obtain ⟨wq, hwq⟩ : ∃ W : World, W = wr.drewN nq := ⟨_, rfl⟩
      rw [← hwq]
      have ho2 : Own wq (w.heap.size + 1) 5 (.slice (some ⟨g, 0, none⟩) N cap) N ((rowS st (N - st.r.length - 1) 0).map byv) := by rw [hwq]; exact HO.out.drewN _
      have hb2 : Below (w.heap.size + 1) W1 wq := by rw [hwq]; exact bdrewN HB.out _
      have hs2 : w.heap.size + 1 ≤ wq.heap.size := by rw [hwq]; exact hsz
      have HO2 := Box.mk ho2; have HB2 := Box.mk hb2; have HS2 := Box.mk hs2
      clear ho2 hb2 hs2 hwq
      go_wp2_with (at_builtin; refine wpList_app1 (w0 := W1) rfl (.tmp 30) (.tmp 31) 36 rfl (w.heap.size + 1) 5 (.int .u8 0) 1 Try.underlying36 (by kernel_rfl) rfl (.slice (some ⟨g, 0, none⟩) N cap) N ((rowS st (N - st.r.length - 1) 0).map byv) rfl (HO2.out.alloc _) (HB2.out.alloc HS2.out _) (by have := HS2.out; simp; omega) wq.heap.size (.int .u8 0) rfl (cell_new _ _ _) rfl (by omega) (by omega) ?_)
      intro v2 w2 hown2 hbel2 hsz2 _ hnn2
      obtain ⟨g2, cap2, rfl, _⟩ := hown2.cells hnn2
      have HO3 := Box.mk hown2; have HB3 := Box.mk hbel2; have HSZ3 := Box.mk hsz2
      clear hown2 hbel2 hnn2 hsz2 HO HB HO2 HB2 HS2
      go_wp2
      refine ⟨⟨N + 1, g2, cap2, by omega, by omega, rfl, ?_, HB3.out, HSZ3.out⟩, ?_⟩
      · have := HO3.out
        rw [show N + 1 - st.r.length - 1 = N - st.r.length - 1 + 1 from by omega]
        simpa [rowS, byv, List.replicate_succ'] using this
      · show 1000 - (N + 1) < 1000 - N
        omega
    · have hNe : N = st.r.length + 1 + Z := by omega
      have hneB : ((q : Int) != 56) = false := by
        have := HZ2.out; rw [← hNe] at this; rw [hq, this]; decide
      rw [show N - st.r.length - 1 = Z from by omega] at HO
      have HNE := Box.mk hNe
      clear hq hNe
      go_wp2_with fail
      go_quiet ((go_at_call 19; exact quiet_calls (long32_any p _ _ _ _ _ GPR.out)))
      obtain ⟨wq, hwq⟩ : ∃ W : World, W = wr.drewN nq := ⟨_, rfl⟩
      rw [← hwq]
      have ho2 : Own wq (w.heap.size + 1) 5 (.slice (some ⟨g, 0, none⟩) N cap) N ((rowS st Z 0).map byv) := by rw [hwq]; exact HO.out.drewN _
      have hb2 : Below (w.heap.size + 1) W1 wq := by rw [hwq]; exact bdrewN HB.out _
      have hs2 : w.heap.size + 1 ≤ wq.heap.size := by rw [hwq]; exact hsz
      have gq : Hs32 wq p st.v O r st.n := by rw [hwq]; exact GPR.out
      have k0 := cell_of_row _ _ 0 _ _ _ gq
      have k18 := cell_of_row _ _ 18 _ _ _ gq
      simp [hc32, hcells] at k0 k18
      have HO2 := Box.mk ho2; have HB2 := Box.mk hb2; have HS2 := Box.mk hs2
      clear ho2 hb2 hs2 hwq gq HO HB GPR hsz m1 m2 m3 m4 m5 hneB
      have hw64 : IntKind.u64.wrap (st.n : Int) = (st.n : Int) := by rw [IntKind.wrap_u64]; omega
      go_wp2_with (go_at_call 20; refine (mul8_any st.n (by omega) _).mono ?_; rintro e w' ⟨rfl, rfl⟩)
      clear k0 k18 hw64
      obtain ⟨L, hL⟩ : ∃ L : Nat, L = 8 * st.n := ⟨_, rfl⟩
      have hLI : 8 * (st.n : Int) = (L : Int) := by omega
      rw [hLI]
      have HLL := Box.mk hL; clear hL hLI

      go_loopw [4, 8] (fun b k wr => ∃ m g cap : Nat, m ≤ 8 ∧ k = .int .i64 (56 - 8 * (m : Int)) ∧ b = .slice (some ⟨g, 0, none⟩) (N + 0 + m) cap ∧ Own wr (w.heap.size + 1) 5 b (N + 0 + m) ((rowS st (Z + 0) m).map byv) ∧ Below (w.heap.size + 1) W1 wr ∧ w.heap.size + 1 ≤ wr.heap.size) (fun _ k _ => (intOf k + 8).toNat)
      case atStart => exact ⟨0, _, _, by omega, rfl, rfl, HO2.out, HB2.out, HS2.out⟩
      case round =>
        clear HO2 HB2 HS2
        obtain ⟨m, g, cap, hm, rfl, rfl, hown, hbel, hsz⟩ := hrel
        by_cases hml : m < 8
        · obtain ⟨c, hc⟩ : ∃ c : Nat, c = 56 - 8 * m := ⟨_, rfl⟩
          have hcI : 56 - 8 * (m : Int) = (c : Int) := by omega
          have hc0 : (0 : Int) ≤ (c : Int) := by omega
          have hy := shift_byte L c (8 - 1 - m) (by omega)
          have HY := Box.mk hy
          have HO := Box.mk hown; have HB := Box.mk hbel
          clear hown hbel hc hy
          go_wp2_with (at_builtin; refine wpList_app1 (w0 := W1) rfl (.tmp 62) (.tmp 67) 36 rfl (w.heap.size + 1) 5 (.int .u8 0) 1 Try.underlying36 (by kernel_rfl) rfl (.slice (some ⟨g, 0, none⟩) (N + 0 + m) cap) (N + 0 + m) ((rowS st (Z + 0) m).map byv) rfl (HO.out.alloc _) (HB.out.alloc hsz _) (by simp; omega) wr.heap.size (.int .u8 ((L : Int) / 2 ^ c % 256)) rfl (cell_new _ _ _) rfl (by omega) (by omega) ?_)
          intro v2 w2 hown2 hbel2 hsz2 _ hnn2
          obtain ⟨g2, cap2, rfl, _⟩ := hown2.cells hnn2
          have HO3 := Box.mk hown2; have HB3 := Box.mk hbel2; have HSZ3 := Box.mk hsz2
          clear hown2 hbel2 hnn2 hsz2 HO HB
          go_wp2
          refine ⟨⟨m + 1, g2, cap2, by omega, int_congr (by omega), rfl, ?_, HB3.out, HSZ3.out⟩, by simp [intOf]; omega⟩
          have := HO3.out
          rw [HY.out] at this
          rw [rowS_step _ _ _ hml, ← HLL.out]
          simpa [← Nat.add_assoc] using this
        · obtain rfl : m = 8 := by omega
          have hfull : rowS st (Z + 0) 8 = st.r ++ padB 64 st.n := by
            unfold rowS
            rw [pad32_eq _ (by omega), ← HZ.out, List.take_of_length_le (by rw [bytesOf_len]; exact Nat.le_refl _)]
          have hlen := hown.1
          rw [hfull] at hown hlen
          rw [List.length_map] at hlen
          obtain ⟨D, hD⟩ : ∃ D : ByteArray, D = ⟨(st.r ++ padB 64 st.n).toArray⟩ := ⟨_, rfl⟩
          have hcv := run_str_Own (P := Try.prog) (dst := 9) hown (by simp) Try.underlying36 Try.underlying5 Try.underlying9
          rw [← hD] at hcv
          have hDl : D.data.toList = st.r ++ padB 64 st.n := by rw [hD]
          have hgc : Hs32 wr w.heap.size st.v O r st.n := (hbel.block _ (by omega)).trans G1.out
          have hblk := blocks32_any w.heap.size st.v O r st.n D wr hgc HOK.out (by rw [← size_list, hDl, hlen]; have := HNE.out; omega)
          rw [hDl] at hblk
          have hask := ask32_eq st
          generalize blks 64 k256.step st.v (st.r ++ padB 64 st.n) = Q at hblk hask
          have HBLK := Box.mk hblk; have HASK := Box.mk hask; have HB := Box.mk hbel; have HZW := Box.mk hsz
          have gpr : Hs32 wr p st.v O r st.n := (hbel.block p (by have := Z1.out; omega)).trans GP.out
          have GPR := Box.mk gpr
          have hbv := bytes32_any Q.1
          unfold v8c32 u32v at hbv
          have HBV := Box.mk hbv
          clear hfull hlen hown hD hDl hgc hblk hask hbel gpr hbv
          go_wp2_with (first
            | (go_at_call 18; refine HBLK.out.mono ?_; rintro e w2 ⟨r2, rfl, _, hs2, hok2, hu2⟩; have gp2 := (hu2.block p ?hlt ?hne).trans GPR.out; (case hlt => have := HZW.out; omega); (case hne => simp; omega); have k0 := cell_of_row _ _ 0 _ _ _ gp2; have HS2 := Box.mk hs2; have HU2 := Box.mk hu2; have q1 := cell_of_row _ _ 1 _ _ _ hs2; have q2 := cell_of_row _ _ 2 _ _ _ hs2; have q3 := cell_of_row _ _ 3 _ _ _ hs2; have q4 := cell_of_row _ _ 4 _ _ _ hs2; have q5 := cell_of_row _ _ 5 _ _ _ hs2; have q6 := cell_of_row _ _ 6 _ _ _ hs2; have q7 := cell_of_row _ _ 7 _ _ _ hs2; have q8 := cell_of_row _ _ 8 _ _ _ hs2; simp [hc32, hcells, u32v, u64v] at k0 q1 q2 q3 q4 q5 q6 q7 q8; clear hs2 hu2 gp2 hok2)
            | (go_at_call 21; refine (HBV.out _).mono ?_; rintro e w3 ⟨rfl, hb3⟩; have HB3 := Box.mk hb3; clear hb3))
          go_ret
          refine ⟨by rw [HASK.out]; rfl, ?_⟩
          have h1 := B1.out.trans (HB.out.mono (by omega))
          have h2 := Upd.below h1 HU2.out (by simp) h1.size
          exact h2.trans (HB3.out.mono h2.size)

end Go.Proofs.Ytbjapmhfnegmeaa
