/- The package curve: a point so many times. The package curve: a point's bytes. The package curve: bytes and points, plainly. -/
import Derived.Test.YtafhncpaoolljaaGreatM29
import Derived.Test.YtafhncpaoolljaaGreatM23
import Derived.Test.YtafhncpaoolljaaGreatM25
import Derived.Test.YtafhncpaoolljaaGreatM21
import Derived.Test.YtafhncpaoolljaaGreatM02
namespace Go.Proofs.YtafhncpaoolljaaGreat.Fe
set_option maxRecDepth 100000
set_option linter.unusedVariables false
open Go Go.RowKit
theorem u8_and1 (n : Nat) (h : n < 256) : bits .and .u8 (n : Int) 1 = ((n % 2 : Nat) : Int) := by
 rw [show (1 : Int) = ((1 : Nat) : Int) from rfl, u8_and_nat n 1 h (by omega), Nat.and_one_is_mod]
theorem leNat_at : ∀ (l : List UInt8) (j : Nat) (c : UInt8), l[j]? = some c → leNat l / 256 ^ j % 256 = c.toNat
 | [], j, c, h => by simp at h
 | b :: l, 0, c, h => by
   simp at h; subst h
   have := b.toNat_lt
   simp only [leNat, Nat.pow_zero, Nat.div_one]; omega
 | b :: l, j + 1, c, h => by
   have ih := leNat_at l j c (by simpa using h)
   have hb := b.toNat_lt
   simp only [leNat]
   rw [Nat.pow_succ, Nat.mul_comm (256 ^ j), ← Nat.div_div_eq_div_mul, show (b.toNat + 256 * leNat l) / 256 = leNat l by omega]
   exact ih
theorem bit_of (s : ByteArray) (i : Nat) (h : i / 8 < s.size) : s[i / 8].toNat / 2 ^ (i % 8) % 2 = num s / 2 ^ i % 2 := by
 have e1 := leNat_at s.data.toList (i / 8) s[i / 8] (by rw [List.getElem?_eq_getElem (by simpa using h)]; rfl)
 unfold num
 rw [← e1]
 have e : 2 ^ i = 256 ^ (i / 8) * 2 ^ (i % 8) := by rw [show (256 : Nat) = 2 ^ 8 from rfl, ← Nat.pow_mul, ← Nat.pow_add, Nat.div_add_mod]
 have e2 : 256 = 2 ^ (i % 8) * (2 * 2 ^ (7 - i % 8)) := by
   rw [← Nat.pow_succ', ← Nat.pow_add, show i % 8 + (7 - i % 8 + 1) = 8 by omega]
 rw [e, ← Nat.div_div_eq_div_mul]
 conv => lhs; rw [e2]
 rw [Nat.mod_mul_right_div_self, Nat.mod_mul_right_mod]
 congr 2
 rw [← e2]
def PAt (w : World) (b : Nat) (p : CP) : Prop := ∃ x y z t, w.heap[b]? = some (.cells (pcell x y z t) 58 (0, 0)) ∧ PR x y z t p
set_option maxRecDepth 100000 in
set_option maxHeartbeats 4000000 in
theorem times_pt {x1 y1 z1 t1 x2 y2 z2 t2 : Nat → Nat} {q p : CP} (hq : PR x1 y1 z1 t1 q) (hp : PR x2 y2 z2 t2 p) (s : ByteArray) (hs : s.size = 32) (w : World) :
   Calls Tryz.prog 29 #[.string s, .func (.func 31) #[.agg (pcell x1 y1 z1 t1)] #[], .agg (pcell x2 y2 z2 t2)] w fun e w' => ∃ x y z t, e = .returned (.agg (pcell x y z t)) ∧ PR x y z t (q.add (p.mul (num s))) ∧ Gr w w' := by
 have hz := zeroP
 obtain ⟨W0, hW0⟩ : ∃ W, W = (w.alloc (.cells (pcell x2 y2 z2 t2) 58)).alloc (.cells (pcell f0 f0 f0 f0) 58) := ⟨_, rfl⟩
 have g0 : W0.heap[w.heap.size]? = some (.cells (pcell x2 y2 z2 t2) 58 (0, 0)) := by rw [hW0, heap_alloc_old _ _ (by simp)]; exact heap_alloc_new _ _
 have g1 : W0.heap[w.heap.size + 1]? = some (.cells (pcell f0 f0 f0 f0) 58 (0, 0)) := by
   have := heap_alloc_new (w.alloc (.cells (pcell x2 y2 z2 t2) 58)) (.cells (pcell f0 f0 f0 f0) 58)
   rw [World.size_alloc] at this
   rw [hW0]; exact this
 have b0 : Gr w W0 := by rw [hW0]; exact (Gr.alloc _ _).trans (Gr.alloc _ _)
 have GP := Box.mk g0; have GR := Box.mk g1; have B0 := Box.mk b0; have HP := Box.mk hp; have HQ := Box.mk hq; have HS := Box.mk hs
 clear g0 g1 b0 hp hq hs
 go_enter Tryz.func29, Tryz.ntmps29
 go_upto_region 1 with (fail)
 rw [← hW0]
 clear hW0
 go_wp2_with fail
 refine (zero_any _).mono ?_
 rintro e w1 ⟨rfl, hg1⟩
 replace GP := Box.mk (hg1.block GP.out); replace GR := Box.mk (hg1.block GR.out); replace B0 := Box.mk (B0.out.trans hg1)
 clear hg1
 obtain ⟨b, hb⟩ : ∃ b, b = w1.heap.size := ⟨_, rfl⟩
 have hbs : w.heap.size + 1 < b := by rw [hb]; exact Gr.blt GR.out
 obtain ⟨W2, hW2⟩ : ∃ W, W = (w1.alloc (.cells (pcell f0 f0 f0 f0) 58)).setRow w1.heap.size (pcell f0 (smF 1) (smF 1) f0) := ⟨_, rfl⟩
 have h3 : (w1.alloc (.cells (pcell f0 f0 f0 f0) 58)).heap[w1.heap.size]? = some (.cells (pcell f0 f0 f0 f0) 58 (0, 0)) := heap_alloc_new _ _
 have H3 := Box.mk h3
 go_upto_region 2 with ((with_reducible refine wpList_storeP rfl (.tmp 7) (.tmp 9) rfl w1.heap.size f0 (smF 1) (smF 1) f0 (pcell f0 f0 f0 f0) rfl H3.out ?_ ?_ ?_); rfl; rfl)
 go_frame
 rw [← hW2]
 have g3 : W2.heap[b]? = some (.cells (pcell f0 (smF 1) (smF 1) f0) 58 (0, 0)) := by rw [hW2, hb]; exact setRow_heap _ _ _ _ _ _ h3
 have hgr : Gr w1 W2 := by rw [hW2]; exact (Gr.alloc _ _).setRow (Nat.le_refl _) _
 replace GP := Box.mk (hgr.block GP.out); replace GR := Box.mk (hgr.block GR.out); replace B0 := Box.mk (B0.out.trans hgr)
 have PA := Box.mk (show PAt W2 b CP.zero from ⟨_, _, _, _, g3, PR.zero⟩)
 rw [← hb]
 clear h3 H3 hW2 hb hgr g3 hz
 go_wp2_with fail
 go_loopw [8] (fun i wr => ∃ m : Nat, m ≤ 256 ∧ i = .int .i64 ((m : Int) - 1) ∧ wr.heap[w.heap.size]? = some (.cells (pcell x2 y2 z2 t2) 58 (0, 0)) ∧ wr.heap[w.heap.size + 1]? = some (.cells (pcell f0 f0 f0 f0) 58 (0, 0)) ∧ PAt wr b (p.mul (num s / 2 ^ m)) ∧ Gr w wr) (fun i _ => (intOf i + 1).toNat)
 case atStart => exact ⟨256, by omega, rfl, GP.out, GR.out, by
   rw [show num s / 2 ^ 256 = 0 from Nat.div_eq_of_lt (num_lt32 HS.out)]; exact PA.out, B0.out⟩
 case round =>
   clear GP GR PA B0
   obtain ⟨m, hm, rfl, gp, gr, ⟨x, y, z, t, ga, hpr⟩, hbel⟩ := hrel
   have GP := Box.mk gp; have GR := Box.mk gr; have GA := Box.mk ga; have HA := Box.mk hpr; have B0 := Box.mk hbel
   clear gp gr ga hpr hbel
   by_cases hm0 : 0 < m
   · obtain ⟨i, rfl⟩ : ∃ i, m = i + 1 := ⟨m - 1, by omega⟩
     have hi : i < 256 := by omega
     have hiI : (i : Int) < 256 := by omega
     have hcast : ((i + 1 : Nat) : Int) - 1 = (i : Int) := by omega
     rw [hcast]
     clear hcast hm hm0
     go_wp2_with ((with_reducible refine wpList_loadP rfl (.tmp 7) rfl b (pcell x y z t) rfl GA.out ?_ ?_); rfl)
     refine (padd_any HA.out HA.out _).mono ?_
     rintro e w2 ⟨xa, ya, za, ta, rfl, ha, hg⟩
     replace GP := Box.mk (hg.block GP.out); replace GR := Box.mk (hg.block GR.out); replace GA := Box.mk (hg.block GA.out); replace B0 := Box.mk (B0.out.trans hg)
     have HD := Box.mk ha
     clear hg ha
     obtain ⟨W3, hW3⟩ : ∃ W, W = w2.setRow b (pcell xa ya za ta) := ⟨_, rfl⟩
     go_upto_region 6 with ((with_reducible refine wpList_storeP rfl (.tmp 7) (.tmp 16) rfl b xa ya za ta (pcell x y z t) rfl GA.out ?_ ?_ ?_); rfl; rfl)
     go_frame
     rw [← hW3]
     replace GP := Box.mk (show W3.heap[w.heap.size]? = some (.cells (pcell x2 y2 z2 t2) 58 (0, 0)) from by rw [hW3, setRow_other _ _ _ _ (by omega)]; exact GP.out)
     replace GR := Box.mk (show W3.heap[w.heap.size + 1]? = some (.cells (pcell f0 f0 f0 f0) 58 (0, 0)) from by rw [hW3, setRow_other _ _ _ _ (by omega)]; exact GR.out)
     replace GA := Box.mk (show W3.heap[b]? = some (.cells (pcell xa ya za ta) 58 (0, 0)) from by rw [hW3]; exact setRow_heap _ _ _ _ _ _ GA.out)
     replace B0 := Box.mk (show Gr w W3 from by rw [hW3]; exact B0.out.setRow (by omega) _)
     clear hW3
     have hsz := HS.out
     obtain ⟨q8, hq8⟩ : ∃ q, q = i / 8 := ⟨_, rfl⟩
     obtain ⟨r, hr⟩ : ∃ r, r = i % 8 := ⟨_, rfl⟩
     have hqs : q8 < s.size := by omega
     have hqI : (i : Int) / 8 = (q8 : Int) := by omega
     have hrI : (i : Int) % 8 = (r : Int) := by omega
     have hq32 : (q8 : Int) < (s.size : Int) := by omega
     have hr8 : (r : Int) < 8 := by omega
     have hbit := bit_of s i (by omega)
     have hmb := CP.mul_bit p (num s) i
     rw [← hbit] at hmb
     have hyb := s[q8].toNat_lt
     obtain ⟨y8, hy8⟩ : ∃ y, y = s[q8].toNat := ⟨_, rfl⟩
     have hyI : ((s[q8].toNat : Nat) : Int) = (y8 : Int) := by rw [hy8]
     have hy8b : y8 < 256 := by omega
     have hmb' : p.mul (num s / 2 ^ i) = if y8 / 2 ^ r % 2 = 1 then ((p.mul (num s / 2 ^ (i + 1))).add (p.mul (num s / 2 ^ (i + 1)))).add p else (p.mul (num s / 2 ^ (i + 1))).add (p.mul (num s / 2 ^ (i + 1))) := by
       subst hq8; subst hr; rw [hy8]; exact hmb
     clear hmb hbit
     obtain ⟨zb, hzb⟩ : ∃ z, z = y8 / 2 ^ r := ⟨_, rfl⟩
     have hsh : (y8 : Int) / 2 ^ r = (zb : Int) := by rw [hzb]; simp
     have hzl : zb < 256 := by rw [hzb]; exact Nat.lt_of_le_of_lt (Nat.div_le_self _ _) hy8b
     have hand := u8_and1 zb hzl
     rw [← hzb] at hmb'
     have HMB := Box.mk hmb'
     clear hq8 hr hmb' hzb hy8 hsz
     by_cases hbit1 : zb % 2 = 1
     · rw [show (((zb % 2 : Nat)) : Int) = 1 by omega] at hand
       have HB1 := Box.mk hbit1
       clear hbit1
       go_wp2_with (first
         | ((with_reducible refine wpList_loadP rfl (.tmp 7) rfl b (pcell xa ya za ta) rfl GA.out ?_ ?_); rfl)
         | ((with_reducible refine wpList_loadP rfl (.tmp 5) rfl w.heap.size (pcell x2 y2 z2 t2) rfl GP.out ?_ ?_); rfl))
       refine (padd_any HD.out HP.out _).mono ?_
       rintro e w4 ⟨xb, yb, zb', tb, rfl, hb', hg⟩
       replace GP := Box.mk (hg.block GP.out); replace GR := Box.mk (hg.block GR.out); replace GA := Box.mk (hg.block GA.out); replace B0 := Box.mk (B0.out.trans hg)
       have HB' := Box.mk hb'
       clear hg hb' hand hsh
       go_wp2_with ((with_reducible refine wpList_storeP rfl (.tmp 7) (.tmp 28) rfl b xb yb zb' tb (pcell xa ya za ta) rfl GA.out ?_ ?_ ?_); rfl; rfl)
       refine ⟨⟨i, by omega, rfl, ?_, ?_, ⟨xb, yb, zb', tb, setRow_heap _ _ _ _ _ _ GA.out, by rw [HMB.out, if_pos HB1.out]; exact HB'.out⟩, B0.out.setRow (by omega) _⟩, by simp [intOf] <;> omega⟩
       · rw [setRow_other _ _ _ _ (by omega)]; exact GP.out
       · rw [setRow_other _ _ _ _ (by omega)]; exact GR.out
     · rw [show (((zb % 2 : Nat)) : Int) = 0 by omega] at hand
       have HB1 := Box.mk hbit1
       clear hbit1
       go_wp2_with fail
       exact ⟨⟨i, by omega, rfl, GP.out, GR.out, ⟨xa, ya, za, ta, GA.out, by rw [HMB.out, if_neg HB1.out]; exact HD.out⟩, B0.out⟩, by simp [intOf] <;> omega⟩
   · obtain rfl : m = 0 := by omega
     have hcast : ((0 : Nat) : Int) - 1 = -1 := rfl
     rw [hcast]
     clear hm0 hcast
     go_wp2_with ((with_reducible refine wpList_loadP rfl (.tmp 7) rfl b (pcell x y z t) rfl GA.out ?_ ?_); rfl)
     refine (padd_any HQ.out HA.out _).mono ?_
     rintro e w2 ⟨xa, ya, za, ta, rfl, ha, hg⟩
     replace GR := Box.mk (hg.block GR.out); replace B0 := Box.mk (B0.out.trans hg)
     have HD := Box.mk ha
     clear hg ha
     go_wp2_with ((with_reducible refine wpList_storeP rfl (.tmp 6) (.tmp 31) rfl (w.heap.size + 1) xa ya za ta (pcell f0 f0 f0 f0) rfl GR.out ?_ ?_ ?_); rfl; rfl)
     go_frame
     refine bodyPost_ret (results_cell_row (p := 6) (ty := 58) rfl _ _ (w.heap.size + 1) 58 (pcell xa ya za ta) (0, 0) _ rfl (setRow_heap _ _ _ _ _ _ GR.out) Tryz.underlying58 rfl (by kernel_rfl)) rfl ⟨xa, ya, za, ta, rfl, ?_, B0.out.setRow (by omega) _⟩
     have := HD.out
     rwa [Nat.pow_zero, Nat.div_one] at this
open Go Go.RowKit
theorem Own.at {w : World} {base : Nat} {e : TypeId} {g cap n : Nat} {xs : List Value} (h : Own w base e (.slice (some ⟨g, 0, none⟩) n cap) n xs) (j : Nat) (v : Value) (hj : xs[j]? = some v) :
   w.cell? ⟨g, j, none⟩ = some v ∧ w.frozen? ⟨g, j, none⟩ = false := by
 have hjl : j < xs.length := (List.getElem?_eq_some_iff.1 hj).1
 rcases h.2 with ⟨h1, _⟩ | ⟨g', cap', cur, fr, hv, hbg, hg, hnc, hm, hcs, htake, hfr⟩
 · cases h1
 · cases hv
   constructor
   · rw [cell_of_row _ _ _ _ _ _ hg]
     rw [← htake, List.getElem?_take] at hj
     split at hj
     · simpa using hj
     · cases hj
   · have hl := h.1
     obtain ⟨lo, hi⟩ := fr
     simp only [World.frozen?, hg]
     rcases hfr with hfr | hfr
     · have : ¬ j < hi := by simp at hfr; omega
       simp [this]
     · have : ¬ lo ≤ j := by simp at hfr; omega
       simp [this]
theorem Own.set {w : World} {base : Nat} {e : TypeId} {g cap n : Nat} {xs : List Value} (h : Own w base e (.slice (some ⟨g, 0, none⟩) n cap) n xs) (j : Nat) (v : Value) (hj : j < n) :
   Own (w.setCell ⟨g, j, none⟩ v) base e (.slice (some ⟨g, 0, none⟩) n cap) n (xs.set j v) := by
 refine ⟨by rw [List.length_set]; exact h.1, .inr ?_⟩
 rcases h.2 with ⟨h1, _⟩ | ⟨g', cap', cur, fr, hv, hbg, hg, hnc, hm, hcs, htake, hfr⟩
 · cases h1
 · cases hv
   refine ⟨g, cap, cur.setIfInBounds j v, fr, rfl, hbg, ?_, hnc, hm, by simpa using hcs, ?_, hfr⟩
   · rw [setCell_eq_setRow w g j cur e fr v hg]; exact setRow_heap w g cur _ e _ hg
   · rw [← htake, Array.toList_setIfInBounds, List.take_set]
theorem leNat_set : ∀ (l : List UInt8) (j : Nat) (c d : UInt8), l[j]? = some c → leNat (l.set j d) + c.toNat * 256 ^ j = leNat l + d.toNat * 256 ^ j
 | [], j, c, d, h => by simp at h
 | b :: l, 0, c, d, h => by simp at h; subst h; simp only [List.set_cons_zero, leNat]; omega
 | b :: l, j + 1, c, d, h => by
   have ih := leNat_set l j c d (by simpa using h)
   simp only [List.set_cons_succ, leNat]
   rw [Nat.pow_succ, ← Nat.mul_assoc, ← Nat.mul_assoc]; omega
def encP (p : CP) : ByteArray := sbytes (p.y.val + 2 ^ 255 * (p.x.val % 2))
theorem sbytes_top (n : Nat) (h : n < 2 ^ 255) : (⟨((leList 32 n).set 31 (UInt8.ofNat (n / 256 ^ 31 % 256 + 128))).toArray⟩ : ByteArray) = sbytes (n + 2 ^ 255) := by
 have hq : n / 256 ^ 31 < 128 := by omega
 have hg := leList_get 32 n 31 (by omega)
 have hs := leNat_set (leList 32 n) 31 _ (UInt8.ofNat (n / 256 ^ 31 % 256 + 128)) hg
 have e1 : (UInt8.ofNat (n / 256 ^ 31 % 256)).toNat = n / 256 ^ 31 := by rw [UInt8.toNat_ofNat']; omega
 have e2 : (UInt8.ofNat (n / 256 ^ 31 % 256 + 128)).toNat = n / 256 ^ 31 + 128 := by rw [UInt8.toNat_ofNat']; omega
 rw [e1, e2, leNat_leList] at hs
 refine bytes_inj ?_ ?_
 · rw [sbytes_size]; show ((leList 32 n).set 31 _).toArray.size = 32; simp [leList_length]
 · rw [num_sbytes]; show leNat ((leList 32 n).set 31 _) = _
   have : (256 : Nat) ^ 32 = 2 ^ 256 := rfl
   omega
theorem invV (a : Nat → Nat) (ha : Lim 2 a) (w : World) : Calls Tryz.prog 62 #[.agg (ecell a)] w fun e w' => ∃ h, e = .returned (.agg (ecell h)) ∧ Lim 2 h ∧ lf h = fi (lf a) ∧ Gr w w' :=
 (inv_any a ha w).mono fun _ _ ⟨h, he, hl, hv, hg⟩ => ⟨h, he, hl, by unfold lf; rw [fv_eq hv]; refine Fin.ext ?_; rw [fv_pow _ _ _ rfl]; unfold fi; rw [fv_val]; rfl, hg⟩
structure PB (x y z : Nat → Nat) (p : CP) : Prop where
 lx : Lim 2 x
 ly : Lim 2 y
 lz : Lim 2 z
 rep : Rep (lf x) (lf y) (lf z) p
theorem PR.pb {x y z t : Nat → Nat} {p : CP} (h : PR x y z t p) : PB x y z p := ⟨h.lx, h.ly, h.lz, h.rep⟩
theorem PB.inv_x {x y z : Nat → Nat} {p : CP} (h : PB x y z p) : lf x * fi (lf z) = p.x := by
 rw [h.rep.x]; have := fi_mul h.rep.z; grind
theorem PB.inv_y {x y z : Nat → Nat} {p : CP} (h : PB x y z p) : lf y * fi (lf z) = p.y := by
 rw [h.rep.y]; have := fi_mul h.rep.z; grind
theorem u8_or128 (n : Nat) (h : n < 128) : bits .or .u8 (n : Int) 128 = ((n + 128 : Nat) : Int) := by
 have : ∀ n : Fin 128, bits .or .u8 (n.val : Int) 128 = ((n.val + 128 : Nat) : Int) := by decide +kernel
 exact this ⟨n, h⟩
set_option maxRecDepth 100000 in
set_option maxHeartbeats 4000000 in
theorem bytes_pr {x y z t : Nat → Nat} {p : CP} (hp : PB x y z p) (w : World) :
   Calls Tryz.prog 32 #[.agg (pcell x y z t)] w fun e w' => e = .returned (.string (encP p)) ∧ Gr w w' := by
 have hz := zeroE
 obtain ⟨W0, hW0⟩ : ∃ W, W = w.alloc (.cells (pcell x y z t) 58) := ⟨_, rfl⟩
 have g0 : W0.heap[w.heap.size]? = some (.cells (pcell x y z t) 58 (0, 0)) := by rw [hW0]; exact heap_alloc_new _ _
 have GP := Box.mk g0; have B0 := Box.mk (show Gr w W0 from by rw [hW0]; exact Gr.alloc _ _); have HP := Box.mk hp
 clear g0 hp
 obtain ⟨bp, hbp⟩ : ∃ b, b = w.heap.size := ⟨_, rfl⟩
 have hgp : w.heap.size ≤ bp := by omega
 rw [← hbp] at GP
 go_enter Tryz.func32, Tryz.ntmps32
 go_upto_region 1 with (fail)
 rw [← hW0, ← hbp]
 clear hW0 hz hbp
 refine wp_region_seq 4 [.flo, .flo, .cha, .new (.cells (ecell f0) 56)] (by rfl) rfl (by decide) ?_
 simp only [List.take, List.zip, List.zipWith]
 refine gm_field 2 10 (.tmp 1) rfl bp rfl (field2 bp) ?_
 try go_frame
 refine gm_loadF (.tmp 5) rfl bp 10 z (pcell x y z t) GP.out (sub_z _ _ _ _) rfl ?_
 try go_frame
 refine gm_call [.agg (ecell z)] (by kernel_rfl) rfl rfl Stb.tt (fun w1 hw1 _ => (invV z HP.out.lz w1).mono ?_)
 rintro e w2 ⟨i, rfl, hl, hv, hw2⟩
 refine ⟨_, rfl, hw2, ?_⟩
 try go_frame
 have Li := Box.mk hl; have Vi := Box.mk hv
 clear hl hv
 refine gm_alloc rfl (.cells (ecell f0) 56) (fun _ => by kernel_rfl) (fun bi hbi hnebi => ?_)
 try go_frame
 refine gm_nil ?_
 intro w7 hw7 hF7
 simp only [List.drop]
 try go_frame
 have HN0 := Box.mk (show w7.heap[bi]? = some (.cells (ecell f0) 56 (0, 0)) from hF7.2)
 obtain ⟨W1, hWn⟩ : ∃ W, W = (w7.setRow bi (ecell i)) := ⟨_, rfl⟩
 go_upto_region 2 with ((with_reducible refine wpList_storeE rfl (.tmp 3) (.tmp 7) rfl bi i f0 HN0.out ?_ ?_ ?_); rfl; rfl)
 try go_frame
 rw [← hWn]
 have hgn : Gr W0 W1 := by rw [hWn]; exact (hw7.setRow hbi _)
 replace GP := Box.mk (hgn.block GP.out)
 have GI := Box.mk (show W1.heap[bi]? = some (.cells (ecell i) 56 (0, 0)) from by rw [hWn]; exact setRow_heap _ _ _ _ _ _ HN0.out)
 replace B0 := Box.mk (B0.out.trans hgn)
 clear hWn hgn hF7 hw7 HN0 hbi hnebi
 refine wp_region_seq 5 [.flo, .flo, .flo, .cha, .cha] (by rfl) rfl (by decide) ?_
 simp only [List.take, List.zip, List.zipWith]
 refine gm_field 1 5 (.tmp 1) rfl bp rfl (field1 bp) ?_
 try go_frame
 refine gm_loadF (.tmp 8) rfl bp 5 y (pcell x y z t) GP.out (sub_y _ _ _ _) rfl ?_
 try go_frame
 refine gm_loadE (.tmp 3) rfl bi i GI.out rfl ?_
 try go_frame
 refine gm_call [.agg (ecell y), .agg (ecell i)] (by kernel_rfl) rfl rfl Stb.tt (fun w1 hw1 _ => (mulV y i HP.out.ly Li.out w1).mono ?_)
 rintro e w2 ⟨yi, rfl, hl, hv, hw2⟩
 refine ⟨_, rfl, hw2, ?_⟩
 try go_frame
 have Lyi := Box.mk hl
 rw [Vi.out, HP.out.inv_y] at hv
 have Vyi := Box.mk hv
 clear hl hv
 refine gm_call [.agg (ecell yi)] (by kernel_rfl) rfl rfl Stb.tt (fun w1 hw1 _ => (bytes_any yi Lyi.out.zero w1).mono ?_)
 rintro e w2 ⟨rfl, hw2⟩
 refine ⟨_, rfl, hw2, ?_⟩
 try go_frame
 refine gm_nil ?_
 intro w7 hw7 _
 simp only [List.drop]
 try go_frame
 have hn : lv yi % fp = p.y.val := by rw [← Vyi.out]; rfl
 rw [hn]
 obtain ⟨cap, C, fr, hcv, hown⟩ := run_tobytes (P := Tryz.prog) 9 29 5 (sbytes p.y.val) Tryz.underlying9 Tryz.underlying29 Tryz.underlying5 (by rw [sbytes_size]; omega) w.heap.size w7 (by have := B0.out.size; have := hw7.size; omega)
 obtain ⟨W2, hW2⟩ : ∃ W, W = (w7.alloc (.cells C 5 fr)).drew := ⟨_, rfl⟩
 rw [← hW2] at hcv
 have hg2 : Gr w7 W2 := by rw [hW2]; exact bdrewN (Gr.alloc w7 _) 1
 obtain ⟨bb, hbb⟩ : ∃ b, b = w7.heap.size := ⟨_, rfl⟩
 rw [← hbb] at hcv hown
 have OW := Box.mk (show Own W2 w.heap.size 5 (.slice (some ⟨bb, 0, none⟩) 32 cap) 32 ((leList 32 p.y.val).map byv) from by rw [hW2]; exact hown.drew)
 rw [sbytes_size] at hcv
 go_upto_region 3 with (fail)
 try go_frame
 rw [← hW2, ← hbb]
 replace GP := Box.mk ((hw7.trans hg2).block GP.out); replace GI := Box.mk ((hw7.trans hg2).block GI.out); replace B0 := Box.mk (B0.out.trans (hw7.trans hg2))
 have hbge : w.heap.size ≤ bb := (OW.out.lt _ rfl).1
 clear hcv hown hg2 hw7 hW2 hbb hn
 refine wp_region_seq 5 [.flo, .flo, .flo, .cha, .cha] (by rfl) rfl (by decide) ?_
 simp only [List.take, List.zip, List.zipWith]
 refine gm_field 0 0 (.tmp 1) rfl bp rfl (field0 bp) ?_
 try go_frame
 refine gm_loadF (.tmp 14) rfl bp 0 x (pcell x y z t) GP.out (sub_x _ _ _ _) rfl ?_
 try go_frame
 refine gm_loadE (.tmp 3) rfl bi i GI.out rfl ?_
 try go_frame
 refine gm_call [.agg (ecell x), .agg (ecell i)] (by kernel_rfl) rfl rfl Stb.tt (fun w1 hw1 _ => (mulV x i HP.out.lx Li.out w1).mono ?_)
 rintro e w2 ⟨xi, rfl, hl, hv, hw2⟩
 refine ⟨_, rfl, hw2, ?_⟩
 try go_frame
 have Lxi := Box.mk hl
 rw [Vi.out, HP.out.inv_x] at hv
 have hnx : lv xi % fp = p.x.val := by rw [← hv]; rfl
 clear hl hv
 refine gm_call [.agg (ecell xi)] (by kernel_rfl) rfl rfl Stb.tt (fun w1 hw1 _ => (odd_any xi Lxi.out.zero w1).mono ?_)
 rintro e w2 ⟨rfl, hw2⟩
 refine ⟨_, rfl, hw2, ?_⟩
 try go_frame
 rw [hnx]
 refine gm_nil ?_
 intro w8 hw8 _
 simp only [List.drop]
 try go_frame
 replace OW := Box.mk (OW.out.below hw8); replace B0 := Box.mk (B0.out.trans hw8)
 clear hw8 hnx
 have hyl : p.y.val < 2 ^ 255 := Nat.lt_of_lt_of_le p.y.isLt (by rw [fp_eq]; decide)
 have hodd : oddB p.x.val = decide (p.x.val % 2 = 1) := by unfold oddB; rw [Bool.eq_iff_iff]; simp
 by_cases hx : p.x.val % 2 = 1
 · rw [decide_eq_true hx] at hodd
   rw [hodd]
   have hi31 : ((leList 32 p.y.val).map byv)[31]? = some (byv (UInt8.ofNat (p.y.val / 256 ^ 31 % 256))) := by rw [List.getElem?_map, leList_get 32 _ 31 (by omega)]; rfl
   obtain ⟨hc, hf⟩ := Own.at OW.out 31 _ hi31
   have hq : p.y.val / 256 ^ 31 < 128 := by omega
   have hbv : byv (UInt8.ofNat (p.y.val / 256 ^ 31 % 256)) = .int .u8 ((p.y.val / 256 ^ 31 : Nat) : Int) := by
     unfold byv; congr 2; rw [UInt8.toNat_ofNat']; omega
   have hbv2 : byv (UInt8.ofNat (p.y.val / 256 ^ 31 % 256 + 128)) = .int .u8 ((p.y.val / 256 ^ 31 + 128 : Nat) : Int) := by
     unfold byv; congr 2; rw [UInt8.toNat_ofNat']; omega
   have hset := Own.set OW.out 31 (byv (UInt8.ofNat (p.y.val / 256 ^ 31 % 256 + 128))) (by omega)
   rw [← List.map_set] at hset
   have hst := run_str_Own (P := Tryz.prog) (src := 29) (dst := 9) hset (by intro h; cases h) Tryz.underlying29 Tryz.underlying5 Tryz.underlying9
   rw [sbytes_top _ hyl, hbv2] at hst
   rw [hbv] at hc
   have hen : encP p = sbytes (p.y.val + 2 ^ 255) := by unfold encP; rw [hx]
   rw [← hen] at hst
   generalize p.y.val / 256 ^ 31 = q at hc hq hst
   have hor := u8_or128 q hq
   obtain ⟨r, hr⟩ : ∃ r, r = q + 128 := ⟨_, rfl⟩
   rw [← hr] at hor hst
   clear hr hq
   clear hset hbv hbv2 hi31 hyl hen hodd hx
   go_wp2_with fail
   go_ret
   exact ⟨rfl, B0.out.setCell hbge _⟩
 · rw [decide_eq_false hx] at hodd
   rw [hodd]
   have hst := run_str_Own (P := Tryz.prog) (src := 29) (dst := 9) OW.out (by intro h; cases h) Tryz.underlying29 Tryz.underlying5 Tryz.underlying9
   have hen : encP p = ⟨(leList 32 p.y.val).toArray⟩ := by unfold encP; rw [show p.x.val % 2 = 0 by omega]; rfl
   rw [← hen] at hst
   clear hyl hen hodd hx
   go_wp2_with fail
   go_ret
   exact ⟨rfl, B0.out⟩
theorem bytes_pt {x y z t : Nat → Nat} {p : CP} (hp : PR x y z t p) (w : World) :
   Calls Tryz.prog 32 #[.agg (pcell x y z t)] w fun e w' => e = .returned (.string (encP p)) ∧ Gr w w' := bytes_pr hp.pb w
open Go Go.RowKit
theorem den_ne (y : F) : y * y * cd + 1 ≠ 0 := fun h => by
 by_cases hy : y = 0
 · subst hy; exact one_ne (by rw [← h]; grind)
 · refine cd_sq hy (r := fI) ?_
   rw [fI_sq]; grind
def xxOf (y : F) : F := (y * y - 1) * fi (y * y * cd + 1)
theorem xx_of_on {x y : F} (h : On x y) : x * x = xxOf y := by
 have h1 := fi_mul (den_ne y)
 unfold On at h
 unfold xxOf
 have e : y * y - 1 = x * x * (y * y * cd + 1) := by grind
 rw [e]; grind
theorem on_of_xx {x y : F} (h : x * x = xxOf y) : On x y := by
 have h1 := fi_mul (den_ne y)
 unfold xxOf at h
 unfold On
 have e : x * x * (y * y * cd + 1) = y * y - 1 := by rw [h]; grind
 grind
theorem fsq_val (x : F) : (x * x).val = x.val * x.val % fp := Fin.val_mul _ _
theorem root_yes {x a : F} (h : x * x = a) : (rtN a.val).2 = true := by rw [← h, fsq_val]; exact root_sq x.isLt
theorem rawR_lt (A : Nat) : rawR A < fp := by unfold rawR; split <;> exact tryR_lt _ _
theorem rawR_sq {A : Nat} (h : (rtN A).2 = true) : rawR A * rawR A % fp = A := by
 by_cases h0 : tryR A 0 * tryR A 0 % fp = A
 · rw [(rawR_hit h0).1]; exact h0
 · by_cases h1 : tryR A 1 * tryR A 1 % fp = A
   · rw [(rawR_two h0 h1).1]; exact h1
   · rw [(rawR_miss h0 h1).2] at h; cases h
theorem raw_sq {a : F} (h : (rtN a.val).2 = true) : fv (rawR a.val) * fv (rawR a.val) = a := by
 rw [← fv_mul]; refine Fin.ext ?_; rw [fv_val]; exact rawR_sq h
theorem f_sq_eq {x y : F} (h : x * x = y * y) : x = y ∨ x = -y := by
 have : (x - y) * (x + y) = 0 := by grind
 rcases f_mul_zero this with h | h
 · exact .inl (by grind)
 · exact .inr (by grind)
theorem neg_val {x : F} (h : x ≠ 0) : (-x).val = fp - x.val := by
 have e : -x + x = 0 := by grind
 have e1 : ((-x).val + x.val) % fp = 0 := by have := congrArg Fin.val e; rwa [Fin.val_add] at this
 have h1 := (-x).isLt; have h2 := x.isLt
 have h3 : 0 < x.val := Nat.pos_of_ne_zero fun e => h (Fin.ext e)
 rcases Nat.lt_or_ge ((-x).val + x.val) fp with h4 | h4
 · rw [Nat.mod_eq_of_lt h4] at e1; omega
 · rw [Nat.mod_eq_sub_mod h4, Nat.mod_eq_of_lt (by omega)] at e1; omega
theorem neg_parity {x : F} (h : x ≠ 0) : (-x).val % 2 = 1 - x.val % 2 := by
 rw [neg_val h]
 have := fp_odd; have h2 := x.isLt
 omega
theorem encP_size (p : CP) : (encP p).size = 32 := sbytes_size _
theorem val255 (x : F) : x.val < 2 ^ 255 := Nat.lt_of_lt_of_le x.isLt (by rw [fp_eq]; decide)
theorem encP_num (p : CP) : num (encP p) = p.y.val + 2 ^ 255 * (p.x.val % 2) := by
 unfold encP; rw [num_sbytes]
 have := val255 p.y
 have : (256 : Nat) ^ 32 = 2 ^ 256 := rfl
 omega
theorem enc_iff (p : CP) {s : ByteArray} (hs : s.size = 32) : encP p = s ↔ p.y.val = num s % 2 ^ 255 ∧ p.x.val % 2 = num s / 2 ^ 255 := by
 have h1 := encP_num p
 have h2 := val255 p.y
 constructor
 · rintro rfl
   omega
 · rintro ⟨e1, e2⟩
   refine bytes_inj (by rw [encP_size, hs]) ?_
   rw [h1]; omega
theorem encP_inj {p q : CP} (h : encP p = encP q) : p = q := by
 have h0 := (enc_iff p (encP_size q)).1 h
 have h1 := (enc_iff q (encP_size q)).1 rfl
 have hy : p.y = q.y := Fin.ext (h0.1.trans h1.1.symm)
 have hx := h0.2.trans h1.2.symm
 refine CP.ext' ?_ hy
 have e : p.x * p.x = q.x * q.x := by rw [xx_of_on p.on, xx_of_on q.on, hy]
 rcases f_sq_eq e with h | h
 · exact h
 · by_cases hz : q.x = 0
   · rw [h, hz]; grind
   · rw [h, neg_parity hz] at hx; omega
def NoP (s : ByteArray) : Prop := ∀ p, encP p ≠ s
theorem no_size {s : ByteArray} (h : s.size ≠ 32) : NoP s := fun p hp => h (by rw [← hp]; exact encP_size p)
theorem no_big {s : ByteArray} (hs : s.size = 32) (h : fp ≤ num s % 2 ^ 255) : NoP s := fun p hp => by
 have := ((enc_iff p hs).1 hp).1
 have := p.y.isLt
 omega
theorem no_root' {s : ByteArray} (hs : s.size = 32) {y : F} (hy : y.val = num s % 2 ^ 255) (h : (rtN (xxOf y).val).2 = false) : NoP s := fun p hp => by
 have h1 := ((enc_iff p hs).1 hp).1
 have : p.y = y := Fin.ext (h1.trans hy.symm)
 have := root_yes (xx_of_on p.on)
 simp_all
theorem no_zero {s : ByteArray} (hs : s.size = 32) {y : F} (hy : y.val = num s % 2 ^ 255) (h : (rtN (xxOf y).val).2 = true) (hz : rawR (xxOf y).val = 0) (ho : num s / 2 ^ 255 = 1) : NoP s := fun p hp => by
 have h1 := (enc_iff p hs).1 hp
 have e : p.y = y := Fin.ext (h1.1.trans hy.symm)
 have h2 := rawR_sq h
 have h3 : xxOf y = 0 := Fin.ext (by rw [← h2, hz]; rfl)
 have h4 := xx_of_on p.on
 rw [e, h3] at h4
 have h5 : p.x = 0 := (f_mul_zero h4).elim id id
 rw [h5, ho] at h1
 simp at h1
def signX (y : F) (b : Nat) : F := if rawR (xxOf y).val % 2 = b then fv (rawR (xxOf y).val) else -fv (rawR (xxOf y).val)
theorem signX_on {y : F} (b : Nat) (h : (rtN (xxOf y).val).2 = true) : On (signX y b) y := by
 refine on_of_xx ?_
 rw [← raw_sq h]
 unfold signX
 split
 · rw [raw_sq h]
 · have := raw_sq h; grind
theorem raw_val (y : F) : (fv (rawR (xxOf y).val)).val = rawR (xxOf y).val := Nat.mod_eq_of_lt (rawR_lt _)
theorem signX_par {y : F} (b : Nat) (hb : b < 2) (hz : b = 1 → rawR (xxOf y).val ≠ 0) : (signX y b).val % 2 = b := by
 unfold signX
 split
 · rw [raw_val]; assumption
 · rename_i h
   have hn : fv (rawR (xxOf y).val) ≠ 0 := fun e => by
     have e1 := congrArg Fin.val e
     rw [raw_val] at e1
     have e2 : rawR (xxOf y).val = 0 := e1
     rw [e2] at h
     exact hz (by omega) e2
   rw [neg_parity hn, raw_val]; omega
def decP (y : F) (b : Nat) (h : (rtN (xxOf y).val).2 = true) : CP := ⟨signX y b, y, signX_on b h⟩
theorem enc_dec {s : ByteArray} (hs : s.size = 32) {y : F} (hy : y.val = num s % 2 ^ 255) (h : (rtN (xxOf y).val).2 = true) (hz : num s / 2 ^ 255 = 1 → rawR (xxOf y).val ≠ 0) : encP (decP y (num s / 2 ^ 255) h) = s := by
 have := num_lt32 hs
 have : (256 : Nat) ^ 32 = 2 ^ 256 := rfl
 exact (enc_iff _ hs).2 ⟨hy, signX_par _ (by omega) hz⟩
end Go.Proofs.YtafhncpaoolljaaGreat.Fe
