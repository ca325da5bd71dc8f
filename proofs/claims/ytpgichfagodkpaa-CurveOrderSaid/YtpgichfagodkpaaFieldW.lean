/- The document's numbers: Power, Num, Inverse. -/
import Derived.Test.YtpgichfagodkpaaFieldV
namespace Go.Proofs.Ytpgichfagodkpaa.Fe
set_option linter.unusedVariables false
open Go Go.RowKit

/-- The power so far: the bits of n from m on. -/
def pwr (a n m : Nat) : Nat := a ^ (n / 2 ^ m) % fp
theorem pwr_dw (a n m : Nat) : pwr a n m < dw 16 := mod_dw _
theorem pwr_start (a n : Nat) (hn : n < dw 16) : pwr a n 256 = 1 := by
  unfold pwr
  rw [show n / 2 ^ 256 = 0 from Nat.div_eq_of_lt hn, Nat.pow_zero, fp_eq]
theorem pwr_step (a n m : Nat) : pwr a n m = (if n / 2 ^ m % 2 = 1 then pwr a n (m + 1) * pwr a n (m + 1) % fp * a % fp else pwr a n (m + 1) * pwr a n (m + 1) % fp) := by
  unfold pwr
  have e : n / 2 ^ m = 2 * (n / 2 ^ (m + 1)) + n / 2 ^ m % 2 := by rw [Nat.pow_succ, ← Nat.div_div_eq_div_mul]; omega
  have hb2 : n / 2 ^ m % 2 < 2 := Nat.mod_lt _ (by omega)
  generalize hq : n / 2 ^ (m + 1) = q at e
  generalize n / 2 ^ m % 2 = b at e hb2
  rw [e]
  have h2 : a ^ q % fp * (a ^ q % fp) % fp = a ^ (2 * q) % fp := by rw [← Nat.mul_mod, Nat.two_mul, Nat.pow_add]
  rw [h2]
  split
  · rename_i hb; subst hb
    rw [Nat.pow_succ, Nat.mod_mul_mod]
  · rename_i hb
    obtain rfl : b = 0 := by omega
    rfl
theorem bit_at (n i : Nat) : dg n (i / 16) / 2 ^ (i % 16) % 2 = n / 2 ^ i % 2 := by
  rw [dg_eq]
  have e : 2 ^ i = 2 ^ (16 * (i / 16)) * 2 ^ (i % 16) := by rw [← Nat.pow_add, Nat.div_add_mod]
  have e2 : 65536 = 2 ^ (i % 16) * (2 * 2 ^ (15 - i % 16)) := by
    rw [← Nat.pow_succ', ← Nat.pow_add, show i % 16 + (15 - i % 16 + 1) = 16 by omega]
  rw [e, ← Nat.div_div_eq_div_mul, e2, Nat.mod_mul_right_div_self, Nat.mod_mul_right_mod]
theorem i64_and1 (n : Int) : bits .and .i64 n 1 = n % 2 := by
  have h1 : (BitVec.ofInt 64 1).toNat = 1 := by decide
  have key : (BitVec.ofInt 64 n &&& BitVec.ofInt 64 1).toNat = (n % ((2 ^ 64 : Nat) : Int)).toNat % 2 := by
    rw [BitVec.toNat_and, BitVec.toNat_ofInt, h1, Nat.and_one_is_mod]
  show IntKind.i64.wrap ((BitVec.ofInt 64 n &&& BitVec.ofInt 64 1).toNat : Nat) = n % 2
  rw [key, IntKind.wrap_i64]
  omega
set_option maxRecDepth 100000 in
set_option maxHeartbeats 4000000 in
theorem powerD (w : World) (a n : Nat) (ha : a < dw 16) (hn : n < dw 16) :
    Calls Try.prog 72 #[.agg (ncell (dg a)), .agg (ncell (dg n))] w fun e w' => e = .returned (.agg (ncell (dg (a ^ n % fp)))) ∧ Gr w w' := by
  have hz := zeroN
  obtain ⟨W0, hW0⟩ : ∃ W, W = ((w.alloc (.cells (ncell (dg a)) 48)).alloc (.cells (ncell (dg n)) 48)).alloc (.cells (ncell f0) 48) := ⟨_, rfl⟩
  have g0 : W0.heap[w.heap.size]? = some (.cells (ncell (dg a)) 48 (0, 0)) := by rw [hW0, heap_alloc_old _ _ (by simp; omega), heap_alloc_old _ _ (by simp)]; exact heap_alloc_new _ _
  have g1 : W0.heap[w.heap.size + 1]? = some (.cells (ncell (dg n)) 48 (0, 0)) := by
    have := heap_alloc_new (w.alloc (.cells (ncell (dg a)) 48)) (.cells (ncell (dg n)) 48)
    rw [World.size_alloc] at this
    rw [hW0, heap_alloc_old _ _ (by simp)]; exact this
  have g2 : W0.heap[w.heap.size + 2]? = some (.cells (ncell f0) 48 (0, 0)) := by
    have := heap_alloc_new ((w.alloc (.cells (ncell (dg a)) 48)).alloc (.cells (ncell (dg n)) 48)) (.cells (ncell f0) 48)
    rw [World.size_alloc, World.size_alloc] at this
    rw [hW0]; exact this
  have b0 : Below w.heap.size w W0 := by rw [hW0]; go_grown
  have G0 := Box.mk g0; have G1 := Box.mk g1; have G2 := Box.mk g2; have B0 := Box.mk b0; have HA := Box.mk ha; have HN := Box.mk hn
  clear g0 g1 g2 b0 ha hn
  go_enter Try.func72, Try.ntmps72
  go_upto_region 1 with (fail)
  rw [← hW0]
  clear hW0
  go_wp2_with fail
  refine (smallD _ 1 (by omega)).mono ?_
  rintro e w1 ⟨rfl, hg1⟩
  replace G0 := Box.mk (hg1.block G0.out); replace G1 := Box.mk (hg1.block G1.out); replace G2 := Box.mk (hg1.block G2.out); replace B0 := Box.mk (B0.out.trans (hg1.below.mono B0.out.size))
  clear hg1
  obtain ⟨b, hb⟩ : ∃ b, b = w1.heap.size := ⟨_, rfl⟩
  have hbs : w.heap.size + 2 < b := by rw [hb]; exact Gr.blt G2.out
  obtain ⟨W2, hW2⟩ : ∃ W, W = (w1.alloc (.cells (ncell f0) 48)).setRow w1.heap.size (ncell (dg 1)) := ⟨_, rfl⟩
  have h3 : (w1.alloc (.cells (ncell f0) 48)).heap[w1.heap.size]? = some (.cells (ncell f0) 48 (0, 0)) := heap_alloc_new _ _
  have H3 := Box.mk h3
  go_upto_region 2 with ((with_reducible refine wpList_storeN rfl (.tmp 5) (.tmp 7) rfl w1.heap.size (dg 1) f0 H3.out ?_ ?_ ?_); rfl; rfl)
  go_frame
  rw [← hW2]
  have g3 : W2.heap[b]? = some (.cells (ncell (dg 1)) 48 (0, 0)) := by rw [hW2, hb]; exact setRow_heap _ _ _ _ _ _ h3
  have old : ∀ k X, w1.heap[k]? = some X → W2.heap[k]? = some X := fun k X hk => by
    have hlt := Gr.blt hk
    rw [hW2, setRow_other _ _ _ _ (by omega), heap_alloc_old _ _ hlt]; exact hk
  replace G0 := Box.mk (old _ _ G0.out); replace G1 := Box.mk (old _ _ G1.out); replace G2 := Box.mk (old _ _ G2.out); have G3 := Box.mk g3
  have B2 := Box.mk (show Below w.heap.size w W2 from by rw [hW2]; exact below_setRow (B0.out.alloc B0.out.size _) B0.out.size _)
  rw [← hb]
  clear h3 H3 hW2 hb old B0 g3 hz
  go_wp2_with fail
  go_loopw [6] (fun i wr => ∃ m : Nat, m ≤ 256 ∧ i = .int .i64 ((m : Int) - 1) ∧ wr.heap[w.heap.size]? = some (.cells (ncell (dg a)) 48 (0, 0)) ∧ wr.heap[w.heap.size + 1]? = some (.cells (ncell (dg n)) 48 (0, 0)) ∧ wr.heap[w.heap.size + 2]? = some (.cells (ncell f0) 48 (0, 0)) ∧ wr.heap[b]? = some (.cells (ncell (dg (pwr a n m))) 48 (0, 0)) ∧ Below w.heap.size w wr) (fun i _ => (intOf i + 1).toNat)
  case atStart => exact ⟨256, by omega, rfl, G0.out, G1.out, G2.out, by rw [pwr_start a n HN.out]; exact G3.out, B2.out⟩
  case round =>
    clear G0 G1 G2 G3 B2
    obtain ⟨m, hm, rfl, ha, hn, hr, ho, hbel⟩ := hrel
    have HAA := Box.mk ha; have HNN := Box.mk hn; have HR := Box.mk hr; have HO := Box.mk ho; have HBEL := Box.mk hbel
    clear ha hn hr ho hbel
    by_cases hm0 : 0 < m
    · obtain ⟨i, rfl⟩ : ∃ i, m = i + 1 := ⟨m - 1, by omega⟩
      have hi : i < 256 := by omega
      have hiI : (i : Int) < 256 := by omega
      have hcast : ((i + 1 : Nat) : Int) - 1 = (i : Int) := by omega
      rw [hcast]
      clear hcast hm hm0
      go_wp2_with (first
        | ((with_reducible refine wpList_loadN rfl (.tmp 5) rfl b (dg (pwr a n (i + 1))) HO.out ?_ ?_); rfl))
      refine (timesD _ _ _ (pwr_dw _ _ _) (pwr_dw _ _ _)).mono ?_
      rintro e w2 ⟨rfl, hg⟩
      obtain ⟨x, hx⟩ : ∃ x, x = pwr a n (i + 1) * pwr a n (i + 1) % fp := ⟨_, rfl⟩
      have hxd : x < dw 16 := by rw [hx]; exact mod_dw _
      rw [← hx]
      have HX := Box.mk hx; have HXD := Box.mk hxd
      clear hx hxd
      replace HAA := Box.mk (hg.block HAA.out); replace HNN := Box.mk (hg.block HNN.out); replace HR := Box.mk (hg.block HR.out); replace HO := Box.mk (hg.block HO.out); replace HBEL := Box.mk (HBEL.out.trans (hg.below.mono HBEL.out.size))
      clear hg
      obtain ⟨W3, hW3⟩ : ∃ W, W = w2.setRow b (ncell (dg x)) := ⟨_, rfl⟩
      go_upto_region 6 with ((with_reducible refine wpList_storeN rfl (.tmp 5) (.tmp 14) rfl b (dg x) (dg (pwr a n (i + 1))) HO.out ?_ ?_ ?_); rfl; rfl)
      go_frame
      rw [← hW3]
      replace HAA := Box.mk (show W3.heap[w.heap.size]? = some (.cells (ncell (dg a)) 48 (0, 0)) from by rw [hW3, setRow_other _ _ _ _ (by omega)]; exact HAA.out)
      replace HNN := Box.mk (show W3.heap[w.heap.size + 1]? = some (.cells (ncell (dg n)) 48 (0, 0)) from by rw [hW3, setRow_other _ _ _ _ (by omega)]; exact HNN.out)
      replace HR := Box.mk (show W3.heap[w.heap.size + 2]? = some (.cells (ncell f0) 48 (0, 0)) from by rw [hW3, setRow_other _ _ _ _ (by omega)]; exact HR.out)
      replace HO := Box.mk (show W3.heap[b]? = some (.cells (ncell (dg x)) 48 (0, 0)) from by rw [hW3]; exact setRow_heap _ _ _ _ _ _ HO.out)
      replace HBEL := Box.mk (show Below w.heap.size w W3 from by rw [hW3]; exact below_setRow HBEL.out (by omega) _)
      clear hW3
      obtain ⟨q, hq⟩ : ∃ q, q = i / 16 := ⟨_, rfl⟩
      obtain ⟨r, hr⟩ : ∃ r, r = i % 16 := ⟨_, rfl⟩
      have hqI : (i : Int) / 16 = (q : Int) := by omega
      have hrI : (i : Int) % 16 = (r : Int) := by omega
      have hq16 : (q : Int) < 16 := by omega
      have hr16 : (r : Int) < 16 := by omega
      have hqn : q < 16 := by omega
      have hbit := bit_at n i
      rw [← hq, ← hr] at hbit
      have c0 : W3.cell? ⟨w.heap.size + 1, q, none⟩ = some (.int .i64 (dg n q : Nat)) := by rw [cell_of_row _ _ _ _ _ _ HNN.out]; exact ncell_get _ _ hqn
      have hdb := dg_dig n q hqn
      generalize dg n q = y at c0 hbit hdb
      obtain ⟨z, hz⟩ : ∃ z, z = y / 2 ^ r := ⟨_, rfl⟩
      have hsh : (y : Int) / 2 ^ r = (z : Int) := by rw [hz]; simp
      have hand := i64_and1 (z : Int)
      rw [← hz] at hbit
      have hz2 : z % 2 < 2 := Nat.mod_lt _ (by omega)
      have hps := pwr_step a n i
      rw [← hbit, ← HX.out] at hps
      have HPS := Box.mk hps
      clear hq hr hbit hz hps
      by_cases hbit1 : z % 2 = 1
      · rw [show (z : Int) % 2 = 1 by omega] at hand
        have HB1 := Box.mk hbit1
        clear hbit1 hz2
        go_wp2_with (first
          | ((with_reducible refine wpList_loadN rfl (.tmp 5) rfl b (dg x) HO.out ?_ ?_); rfl)
          | ((with_reducible refine wpList_loadN rfl (.tmp 2) rfl w.heap.size (dg a) HAA.out ?_ ?_); rfl))
        refine (timesD _ _ _ HXD.out HA.out).mono ?_
        rintro e w4 ⟨rfl, hg⟩
        replace HAA := Box.mk (hg.block HAA.out); replace HNN := Box.mk (hg.block HNN.out); replace HR := Box.mk (hg.block HR.out); replace HO := Box.mk (hg.block HO.out); replace HBEL := Box.mk (HBEL.out.trans (hg.below.mono HBEL.out.size))
        clear hg
        obtain ⟨v, hv⟩ : ∃ v, v = x * a % fp := ⟨_, rfl⟩
        rw [← hv]
        have HV := Box.mk hv
        clear hv hand hsh
        go_wp2_with ((with_reducible refine wpList_storeN rfl (.tmp 5) (.tmp 26) rfl b (dg v) (dg x) HO.out ?_ ?_ ?_); rfl; rfl)
        have hvp : pwr a n i = v := by rw [HPS.out, if_pos HB1.out, HV.out]
        refine ⟨⟨i, by omega, rfl, ?_, ?_, ?_, ?_, below_setRow HBEL.out (by omega) _⟩, by simp [intOf] <;> omega⟩
        · rw [setRow_other _ _ _ _ (by omega)]; exact HAA.out
        · rw [setRow_other _ _ _ _ (by omega)]; exact HNN.out
        · rw [setRow_other _ _ _ _ (by omega)]; exact HR.out
        · rw [hvp]; exact setRow_heap _ _ _ _ _ _ HO.out
      · rw [show (z : Int) % 2 = 0 by omega] at hand
        have HB1 := Box.mk hbit1
        clear hbit1 hz2
        go_wp2_with fail
        have hvp : pwr a n i = x := by rw [HPS.out, if_neg HB1.out]
        exact ⟨⟨i, by omega, rfl, HAA.out, HNN.out, HR.out, by rw [hvp]; exact HO.out, HBEL.out⟩, by simp [intOf] <;> omega⟩
    · obtain rfl : m = 0 := by omega
      have hcast : ((0 : Nat) : Int) - 1 = -1 := rfl
      rw [hcast]
      clear hm0 hcast
      go_wp2_with (first
        | ((with_reducible refine wpList_loadN rfl (.tmp 5) rfl b (dg (pwr a n 0)) HO.out ?_ ?_); rfl)
        | ((with_reducible refine wpList_storeN rfl (.tmp 4) (.tmp 27) rfl (w.heap.size + 2) (dg (pwr a n 0)) f0 HR.out ?_ ?_ ?_); rfl; rfl))
      go_frame
      have hp0 : pwr a n 0 = a ^ n % fp := by unfold pwr; rw [Nat.pow_zero, Nat.div_one]
      refine bodyPost_ret (results_cell_row (p := 4) (ty := 48) rfl _ _ (w.heap.size + 2) 48 (ncell _) (0, 0) _ rfl (setRow_heap _ _ _ _ _ _ HR.out) Try.underlying48 rfl (by kernel_rfl)) rfl ⟨by rw [hp0], ?_⟩
      exact below_setRow HBEL.out (by omega) _

theorem nvd {n : Nat} (hn : n < dw 16) : nv (dg n) % fp = n % fp := by rw [nv_dg hn]
theorem dg_small (n j : Nat) (hj : j < 16) : dg n j < 1125899906842624 := Nat.lt_of_lt_of_le (dg_dig n j hj) (by omega)
theorem num_dw (s : ByteArray) (hs : s.size = 32) : Go.Proofs.Ytpgichfagodkpaa.num s < dw 16 := by
  have h := leNat_lt s.data.toList
  rw [show s.data.toList.length = 32 from by rw [← hs]; simp] at h
  exact Nat.lt_of_lt_of_le h (by decide)
set_option maxRecDepth 100000 in
set_option maxHeartbeats 1000000 in
theorem numD (s : ByteArray) (hs : s.size = 32) (w : World) :
    Calls Try.prog 59 #[.string s] w fun e w' => e = .returned (.agg (ncell (dg (Go.Proofs.Ytpgichfagodkpaa.num s % fp)))) ∧ Gr w w' := by
  have hz := zeroN
  have hd := num_dw s hs
  obtain ⟨W0, hW0⟩ : ∃ W, W = w.alloc (.cells (ncell f0) 48) := ⟨_, rfl⟩
  have g0 : W0.heap[w.heap.size]? = some (.cells (ncell f0) 48 (0, 0)) := by rw [hW0]; exact heap_alloc_new _ _
  have b0 : Below w.heap.size w W0 := by rw [hW0]; go_grown
  have G0 := Box.mk g0; have B0 := Box.mk b0; have HS := Box.mk hs; have HD := Box.mk hd
  clear g0 b0 hs hd
  go_enter Try.func59, Try.ntmps59
  go_upto_region 1 with (fail)
  rw [← hW0]
  clear hW0 hz
  go_wp2_with fail
  refine (digitsD s HS.out _).mono ?_
  rintro e w2 ⟨rfl, hg⟩
  replace G0 := Box.mk (hg.block G0.out); replace B0 := Box.mk (B0.out.trans (hg.below.mono B0.out.size))
  clear hg
  go_wp2_with fail
  refine (modD _ _ (fun j hj => dg_small _ j hj)).mono ?_
  rintro e w3 ⟨rfl, hg⟩
  rw [nvd HD.out]
  replace G0 := Box.mk (hg.block G0.out); replace B0 := Box.mk (B0.out.trans (hg.below.mono B0.out.size))
  clear hg
  go_wp2_with ((with_reducible refine wpList_storeN rfl (.tmp 2) (.tmp 5) rfl w.heap.size (dg (Go.Proofs.Ytpgichfagodkpaa.num s % fp)) f0 G0.out ?_ ?_ ?_); rfl; rfl)
  go_frame
  refine bodyPost_ret (results_cell_row (p := 2) (ty := 48) rfl _ _ w.heap.size 48 (ncell _) (0, 0) _ rfl (setRow_heap _ _ _ _ _ _ G0.out) Try.underlying48 rfl (by kernel_rfl)) rfl ⟨rfl, ?_⟩
  exact below_setRow B0.out (Nat.le_refl _) _
theorem two_le_fp : 2 ≤ fp := by rw [fp_eq]; decide
theorem five_le_fp : 5 ≤ fp := by rw [fp_eq]; decide
set_option maxRecDepth 100000 in
set_option maxHeartbeats 1000000 in
theorem inverseD (a : Nat) (ha : a < dw 16) (w : World) :
    Calls Try.prog 43 #[.agg (ncell (dg a))] w fun e w' => e = .returned (.agg (ncell (dg (a ^ (fp - 2) % fp)))) ∧ Gr w w' := by
  have hz := zeroN
  obtain ⟨W0, hW0⟩ : ∃ W, W = (w.alloc (.cells (ncell (dg a)) 48)).alloc (.cells (ncell f0) 48) := ⟨_, rfl⟩
  have g0 : W0.heap[w.heap.size]? = some (.cells (ncell (dg a)) 48 (0, 0)) := by rw [hW0, heap_alloc_old _ _ (by simp)]; exact heap_alloc_new _ _
  have g1 : W0.heap[w.heap.size + 1]? = some (.cells (ncell f0) 48 (0, 0)) := by
    have := heap_alloc_new (w.alloc (.cells (ncell (dg a)) 48)) (.cells (ncell f0) 48)
    rw [World.size_alloc] at this
    rw [hW0]; exact this
  have b0 : Below w.heap.size w W0 := by rw [hW0]; go_grown
  have G0 := Box.mk g0; have G1 := Box.mk g1; have B0 := Box.mk b0; have HA := Box.mk ha
  clear g0 g1 b0 ha
  go_enter Try.func43, Try.ntmps43
  go_upto_region 1 with (fail)
  rw [← hW0]
  clear hW0 hz
  refine wp_region_mix 5 [.flo, .cha, .cha, .cha, .cha] (by kernel_rfl) (by kernel_rfl) rfl ?_
  simp only [List.take, List.zip, List.zipWith]
  refine gm_loadN (.tmp 1) rfl w.heap.size (dg a) G0.out rfl ?_
  refine gm_call [] (by kernel_rfl) rfl rfl Stb.tt (fun w1 hw1 _ => (pD w1).mono ?_)
  rintro e w2 ⟨rfl, hw2⟩
  refine ⟨_, rfl, hw2, ?_⟩
  refine gm_call [.int .i64 2] (by kernel_rfl) rfl rfl Stb.tt (fun w1 hw1 _ => (smallD w1 2 (by omega)).mono ?_)
  rintro e w2 ⟨rfl, hw2⟩
  refine ⟨_, rfl, hw2, ?_⟩
  refine gm_call [.agg (ncell (dg fp)), .agg (ncell (dg 2))] (by kernel_rfl) rfl rfl Stb.tt (fun w1 hw1 _ => (lessD w1 fp 2 fp_dw two_le_fp).mono ?_)
  rintro e w2 ⟨rfl, hw2⟩
  refine ⟨_, rfl, hw2, ?_⟩
  refine gm_call [.agg (ncell (dg a)), .agg (ncell (dg (fp - 2)))] (by kernel_rfl) rfl rfl Stb.tt (fun w1 hw1 _ => (powerD w1 a (fp - 2) HA.out (Nat.lt_of_le_of_lt (Nat.sub_le _ _) fp_dw)).mono ?_)
  rintro e w2 ⟨rfl, hw2⟩
  refine ⟨_, rfl, hw2, ?_⟩
  refine gm_nil ?_
  intro w7 hw7 _
  simp only [List.drop]
  have G1 := Box.mk (hw7.block (b := w.heap.size + 1) G1.out)
  go_frame
  go_wp2_with ((with_reducible refine wpList_storeN rfl (.tmp 2) (.tmp 7) rfl (w.heap.size + 1) (dg (a ^ (fp - 2) % fp)) f0 G1.out ?_ ?_ ?_); rfl; rfl)
  go_frame
  refine bodyPost_ret (results_cell_row (p := 2) (ty := 48) rfl _ _ (w.heap.size + 1) 48 (ncell _) (0, 0) _ rfl (setRow_heap _ _ _ _ _ _ G1.out) Try.underlying48 rfl (by kernel_rfl)) rfl ⟨rfl, ?_⟩
  exact below_setRow (B0.out.drew.trans (hw7.below.mono B0.out.size)) (by omega) _
end Go.Proofs.Ytpgichfagodkpaa.Fe
