/- The package curve: a point so many times. -/
import Derived.Test.YtpgichfagodkpaaCurveB
import Derived.Test.YtpgichfagodkpaaFieldW
namespace Go.Proofs.Ytpgichfagodkpaa.Fe
set_option linter.unusedVariables false
open Go Go.RowKit

theorem u8_and1 (n : Nat) (h : n < 256) : bits .and .u8 (n : Int) 1 = ((n % 2 : Nat) : Int) := by
  rw [show (1 : Int) = ((1 : Nat) : Int) from rfl, u8_and_nat n 1 h (by omega), Nat.and_one_is_mod]
theorem leNat_at : ∀ (l : List UInt8) (j : Nat) (c : UInt8), l[j]? = some c → leNat l / 256 ^ j % 256 = c.toNat
  | [], j, c, h => by simp at h
  | b :: l, 0, c, h => by
    simp at h; subst h
    have := b.toNat_lt
    simp only [leNat, Nat.pow_zero, Nat.div_one]; omega
  | b :: l, j + 1, c, h => by
    have ih := leNat_at l j c (by simpa using h)
    have hb := b.toNat_lt
    simp only [leNat]
    rw [Nat.pow_succ, Nat.mul_comm (256 ^ j), ← Nat.div_div_eq_div_mul, show (b.toNat + 256 * leNat l) / 256 = leNat l by omega]
    exact ih
theorem bit_of (s : ByteArray) (i : Nat) (h : i / 8 < s.size) : s[i / 8].toNat / 2 ^ (i % 8) % 2 = num s / 2 ^ i % 2 := by
  have e1 := leNat_at s.data.toList (i / 8) s[i / 8] (by rw [List.getElem?_eq_getElem (by simpa using h)]; rfl)
  unfold num
  rw [← e1]
  have e : 2 ^ i = 256 ^ (i / 8) * 2 ^ (i % 8) := by rw [show (256 : Nat) = 2 ^ 8 from rfl, ← Nat.pow_mul, ← Nat.pow_add, Nat.div_add_mod]
  have e2 : 256 = 2 ^ (i % 8) * (2 * 2 ^ (7 - i % 8)) := by
    rw [← Nat.pow_succ', ← Nat.pow_add, show i % 8 + (7 - i % 8 + 1) = 8 by omega]
  rw [e, ← Nat.div_div_eq_div_mul]
  conv => lhs; rw [e2]
  rw [Nat.mod_mul_right_div_self, Nat.mod_mul_right_mod]
  congr 2
  rw [← e2]
/-- A block that holds a point. -/
def PAt (w : World) (b : Nat) (p : CP) : Prop := ∃ x y z t, w.heap[b]? = some (.cells (pcell x y z t) 43 (0, 0)) ∧ PR x y z t p
set_option maxRecDepth 100000 in
set_option maxHeartbeats 4000000 in
theorem times_pt {x1 y1 z1 t1 x2 y2 z2 t2 : Nat → Nat} {q p : CP} (hq : PR x1 y1 z1 t1 q) (hp : PR x2 y2 z2 t2 p) (s : ByteArray) (hs : s.size = 32) (w : World) :
    Calls Try.prog 44 #[.string s, .func (.func 30) #[.agg (pcell x1 y1 z1 t1)] #[], .agg (pcell x2 y2 z2 t2)] w fun e w' => ∃ x y z t, e = .returned (.agg (pcell x y z t)) ∧ PR x y z t (q.add (p.mul (num s))) ∧ Gr w w' := by
  have hz := zeroP
  obtain ⟨W0, hW0⟩ : ∃ W, W = (w.alloc (.cells (pcell x2 y2 z2 t2) 43)).alloc (.cells (pcell f0 f0 f0 f0) 43) := ⟨_, rfl⟩
  have g0 : W0.heap[w.heap.size]? = some (.cells (pcell x2 y2 z2 t2) 43 (0, 0)) := by rw [hW0, heap_alloc_old _ _ (by simp)]; exact heap_alloc_new _ _
  have g1 : W0.heap[w.heap.size + 1]? = some (.cells (pcell f0 f0 f0 f0) 43 (0, 0)) := by
    have := heap_alloc_new (w.alloc (.cells (pcell x2 y2 z2 t2) 43)) (.cells (pcell f0 f0 f0 f0) 43)
    rw [World.size_alloc] at this
    rw [hW0]; exact this
  have b0 : Gr w W0 := by rw [hW0]; exact (Gr.alloc _ _).trans (Gr.alloc _ _)
  have GP := Box.mk g0; have GR := Box.mk g1; have B0 := Box.mk b0; have HP := Box.mk hp; have HQ := Box.mk hq; have HS := Box.mk hs
  clear g0 g1 b0 hp hq hs
  go_enter Try.func44, Try.ntmps44
  go_upto_region 1 with (fail)
  rw [← hW0]
  clear hW0
  go_wp2_with fail
  refine (zero_any _).mono ?_
  rintro e w1 ⟨rfl, hg1⟩
  replace GP := Box.mk (hg1.block GP.out); replace GR := Box.mk (hg1.block GR.out); replace B0 := Box.mk (B0.out.trans hg1)
  clear hg1
  obtain ⟨b, hb⟩ : ∃ b, b = w1.heap.size := ⟨_, rfl⟩
  have hbs : w.heap.size + 1 < b := by rw [hb]; exact Gr.blt GR.out
  obtain ⟨W2, hW2⟩ : ∃ W, W = (w1.alloc (.cells (pcell f0 f0 f0 f0) 43)).setRow w1.heap.size (pcell f0 (smF 1) (smF 1) f0) := ⟨_, rfl⟩
  have h3 : (w1.alloc (.cells (pcell f0 f0 f0 f0) 43)).heap[w1.heap.size]? = some (.cells (pcell f0 f0 f0 f0) 43 (0, 0)) := heap_alloc_new _ _
  have H3 := Box.mk h3
  go_upto_region 2 with ((with_reducible refine wpList_storeP rfl (.tmp 7) (.tmp 9) rfl w1.heap.size f0 (smF 1) (smF 1) f0 (pcell f0 f0 f0 f0) rfl H3.out ?_ ?_ ?_); rfl; rfl)
  go_frame
  rw [← hW2]
  have g3 : W2.heap[b]? = some (.cells (pcell f0 (smF 1) (smF 1) f0) 43 (0, 0)) := by rw [hW2, hb]; exact setRow_heap _ _ _ _ _ _ h3
  have hgr : Gr w1 W2 := by rw [hW2]; exact (Gr.alloc _ _).setRow (Nat.le_refl _) _
  replace GP := Box.mk (hgr.block GP.out); replace GR := Box.mk (hgr.block GR.out); replace B0 := Box.mk (B0.out.trans hgr)
  have PA := Box.mk (show PAt W2 b CP.zero from ⟨_, _, _, _, g3, PR.zero⟩)
  rw [← hb]
  clear h3 H3 hW2 hb hgr g3 hz
  go_wp2_with fail
  go_loopw [8] (fun i wr => ∃ m : Nat, m ≤ 256 ∧ i = .int .i64 ((m : Int) - 1) ∧ wr.heap[w.heap.size]? = some (.cells (pcell x2 y2 z2 t2) 43 (0, 0)) ∧ wr.heap[w.heap.size + 1]? = some (.cells (pcell f0 f0 f0 f0) 43 (0, 0)) ∧ PAt wr b (p.mul (num s / 2 ^ m)) ∧ Gr w wr) (fun i _ => (intOf i + 1).toNat)
  case atStart => exact ⟨256, by omega, rfl, GP.out, GR.out, by
    rw [show num s / 2 ^ 256 = 0 from Nat.div_eq_of_lt (num_lt32 HS.out)]; exact PA.out, B0.out⟩
  case round =>
    clear GP GR PA B0
    obtain ⟨m, hm, rfl, gp, gr, ⟨x, y, z, t, ga, hpr⟩, hbel⟩ := hrel
    have GP := Box.mk gp; have GR := Box.mk gr; have GA := Box.mk ga; have HA := Box.mk hpr; have B0 := Box.mk hbel
    clear gp gr ga hpr hbel
    by_cases hm0 : 0 < m
    · obtain ⟨i, rfl⟩ : ∃ i, m = i + 1 := ⟨m - 1, by omega⟩
      have hi : i < 256 := by omega
      have hiI : (i : Int) < 256 := by omega
      have hcast : ((i + 1 : Nat) : Int) - 1 = (i : Int) := by omega
      rw [hcast]
      clear hcast hm hm0
      go_wp2_with ((with_reducible refine wpList_loadP rfl (.tmp 7) rfl b (pcell x y z t) rfl GA.out ?_ ?_); rfl)
      refine (padd_any HA.out HA.out _).mono ?_
      rintro e w2 ⟨xa, ya, za, ta, rfl, ha, hg⟩
      replace GP := Box.mk (hg.block GP.out); replace GR := Box.mk (hg.block GR.out); replace GA := Box.mk (hg.block GA.out); replace B0 := Box.mk (B0.out.trans hg)
      have HD := Box.mk ha
      clear hg ha
      obtain ⟨W3, hW3⟩ : ∃ W, W = w2.setRow b (pcell xa ya za ta) := ⟨_, rfl⟩
      go_upto_region 6 with ((with_reducible refine wpList_storeP rfl (.tmp 7) (.tmp 16) rfl b xa ya za ta (pcell x y z t) rfl GA.out ?_ ?_ ?_); rfl; rfl)
      go_frame
      rw [← hW3]
      replace GP := Box.mk (show W3.heap[w.heap.size]? = some (.cells (pcell x2 y2 z2 t2) 43 (0, 0)) from by rw [hW3, setRow_other _ _ _ _ (by omega)]; exact GP.out)
      replace GR := Box.mk (show W3.heap[w.heap.size + 1]? = some (.cells (pcell f0 f0 f0 f0) 43 (0, 0)) from by rw [hW3, setRow_other _ _ _ _ (by omega)]; exact GR.out)
      replace GA := Box.mk (show W3.heap[b]? = some (.cells (pcell xa ya za ta) 43 (0, 0)) from by rw [hW3]; exact setRow_heap _ _ _ _ _ _ GA.out)
      replace B0 := Box.mk (show Gr w W3 from by rw [hW3]; exact B0.out.setRow (by omega) _)
      clear hW3
      have hsz := HS.out
      obtain ⟨q8, hq8⟩ : ∃ q, q = i / 8 := ⟨_, rfl⟩
      obtain ⟨r, hr⟩ : ∃ r, r = i % 8 := ⟨_, rfl⟩
      have hqs : q8 < s.size := by omega
      have hqI : (i : Int) / 8 = (q8 : Int) := by omega
      have hrI : (i : Int) % 8 = (r : Int) := by omega
      have hq32 : (q8 : Int) < (s.size : Int) := by omega
      have hr8 : (r : Int) < 8 := by omega
      have hbit := bit_of s i (by omega)
      have hmb := CP.mul_bit p (num s) i
      rw [← hbit] at hmb
      have hyb := s[q8].toNat_lt
      obtain ⟨y8, hy8⟩ : ∃ y, y = s[q8].toNat := ⟨_, rfl⟩
      have hyI : ((s[q8].toNat : Nat) : Int) = (y8 : Int) := by rw [hy8]
      have hy8b : y8 < 256 := by omega
      have hmb' : p.mul (num s / 2 ^ i) = if y8 / 2 ^ r % 2 = 1 then ((p.mul (num s / 2 ^ (i + 1))).add (p.mul (num s / 2 ^ (i + 1)))).add p else (p.mul (num s / 2 ^ (i + 1))).add (p.mul (num s / 2 ^ (i + 1))) := by
        subst hq8; subst hr; rw [hy8]; exact hmb
      clear hmb hbit
      obtain ⟨zb, hzb⟩ : ∃ z, z = y8 / 2 ^ r := ⟨_, rfl⟩
      have hsh : (y8 : Int) / 2 ^ r = (zb : Int) := by rw [hzb]; simp
      have hzl : zb < 256 := by rw [hzb]; exact Nat.lt_of_le_of_lt (Nat.div_le_self _ _) hy8b
      have hand := u8_and1 zb hzl
      rw [← hzb] at hmb'
      have HMB := Box.mk hmb'
      clear hq8 hr hmb' hzb hy8 hsz
      by_cases hbit1 : zb % 2 = 1
      · rw [show (((zb % 2 : Nat)) : Int) = 1 by omega] at hand
        have HB1 := Box.mk hbit1
        clear hbit1
        go_wp2_with (first
          | ((with_reducible refine wpList_loadP rfl (.tmp 7) rfl b (pcell xa ya za ta) rfl GA.out ?_ ?_); rfl)
          | ((with_reducible refine wpList_loadP rfl (.tmp 5) rfl w.heap.size (pcell x2 y2 z2 t2) rfl GP.out ?_ ?_); rfl))
        refine (padd_any HD.out HP.out _).mono ?_
        rintro e w4 ⟨xb, yb, zb', tb, rfl, hb', hg⟩
        replace GP := Box.mk (hg.block GP.out); replace GR := Box.mk (hg.block GR.out); replace GA := Box.mk (hg.block GA.out); replace B0 := Box.mk (B0.out.trans hg)
        have HB' := Box.mk hb'
        clear hg hb' hand hsh
        go_wp2_with ((with_reducible refine wpList_storeP rfl (.tmp 7) (.tmp 28) rfl b xb yb zb' tb (pcell xa ya za ta) rfl GA.out ?_ ?_ ?_); rfl; rfl)
        refine ⟨⟨i, by omega, rfl, ?_, ?_, ⟨xb, yb, zb', tb, setRow_heap _ _ _ _ _ _ GA.out, by rw [HMB.out, if_pos HB1.out]; exact HB'.out⟩, B0.out.setRow (by omega) _⟩, by simp [intOf] <;> omega⟩
        · rw [setRow_other _ _ _ _ (by omega)]; exact GP.out
        · rw [setRow_other _ _ _ _ (by omega)]; exact GR.out
      · rw [show (((zb % 2 : Nat)) : Int) = 0 by omega] at hand
        have HB1 := Box.mk hbit1
        clear hbit1
        go_wp2_with fail
        exact ⟨⟨i, by omega, rfl, GP.out, GR.out, ⟨xa, ya, za, ta, GA.out, by rw [HMB.out, if_neg HB1.out]; exact HD.out⟩, B0.out⟩, by simp [intOf] <;> omega⟩
    · obtain rfl : m = 0 := by omega
      have hcast : ((0 : Nat) : Int) - 1 = -1 := rfl
      rw [hcast]
      clear hm0 hcast
      go_wp2_with ((with_reducible refine wpList_loadP rfl (.tmp 7) rfl b (pcell x y z t) rfl GA.out ?_ ?_); rfl)
      refine (padd_any HQ.out HA.out _).mono ?_
      rintro e w2 ⟨xa, ya, za, ta, rfl, ha, hg⟩
      replace GR := Box.mk (hg.block GR.out); replace B0 := Box.mk (B0.out.trans hg)
      have HD := Box.mk ha
      clear hg ha
      go_wp2_with ((with_reducible refine wpList_storeP rfl (.tmp 6) (.tmp 31) rfl (w.heap.size + 1) xa ya za ta (pcell f0 f0 f0 f0) rfl GR.out ?_ ?_ ?_); rfl; rfl)
      go_frame
      refine bodyPost_ret (results_cell_row (p := 6) (ty := 43) rfl _ _ (w.heap.size + 1) 43 (pcell xa ya za ta) (0, 0) _ rfl (setRow_heap _ _ _ _ _ _ GR.out) Try.underlying43 rfl (by kernel_rfl)) rfl ⟨xa, ya, za, ta, rfl, ?_, B0.out.setRow (by omega) _⟩
      have := HD.out
      rwa [Nat.pow_zero, Nat.div_one] at this
end Go.Proofs.Ytpgichfagodkpaa.Fe
