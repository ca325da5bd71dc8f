/- The package curve: a point's bytes. -/
import Derived.Test.YtpgichfagodkpaaCurveC
import Derived.Test.YtpgichfagodkpaaFieldZ
import Derived.Test.YtpgichfagodkpaaFieldJ
import Derived.Test.YtpgichfagodkpaaFieldK
import Derived.Test.YtpgichfagodkpaaOwn
namespace Go.Proofs.Ytpgichfagodkpaa.Fe
set_option linter.unusedVariables false
open Go Go.RowKit

theorem Own.at {w : World} {base : Nat} {e : TypeId} {g cap n : Nat} {xs : List Value} (h : Own w base e (.slice (some ⟨g, 0, none⟩) n cap) n xs) (j : Nat) (v : Value) (hj : xs[j]? = some v) :
    w.cell? ⟨g, j, none⟩ = some v ∧ w.frozen? ⟨g, j, none⟩ = false := by
  have hjl : j < xs.length := (List.getElem?_eq_some_iff.1 hj).1
  rcases h.2 with ⟨h1, _⟩ | ⟨g', cap', cur, fr, hv, hbg, hg, hnc, hm, hcs, htake, hfr⟩
  · cases h1
  · cases hv
    constructor
    · rw [cell_of_row _ _ _ _ _ _ hg]
      rw [← htake, List.getElem?_take] at hj
      split at hj
      · simpa using hj
      · cases hj
    · have hl := h.1
      obtain ⟨lo, hi⟩ := fr
      simp only [World.frozen?, hg]
      rcases hfr with hfr | hfr
      · have : ¬ j < hi := by simp at hfr; omega
        simp [this]
      · have : ¬ lo ≤ j := by simp at hfr; omega
        simp [this]
theorem Own.set {w : World} {base : Nat} {e : TypeId} {g cap n : Nat} {xs : List Value} (h : Own w base e (.slice (some ⟨g, 0, none⟩) n cap) n xs) (j : Nat) (v : Value) (hj : j < n) :
    Own (w.setCell ⟨g, j, none⟩ v) base e (.slice (some ⟨g, 0, none⟩) n cap) n (xs.set j v) := by
  refine ⟨by rw [List.length_set]; exact h.1, .inr ?_⟩
  rcases h.2 with ⟨h1, _⟩ | ⟨g', cap', cur, fr, hv, hbg, hg, hnc, hm, hcs, htake, hfr⟩
  · cases h1
  · cases hv
    refine ⟨g, cap, cur.setIfInBounds j v, fr, rfl, hbg, ?_, hnc, hm, by simpa using hcs, ?_, hfr⟩
    · rw [setCell_eq_setRow w g j cur e fr v hg]; exact setRow_heap w g cur _ e _ hg
    · rw [← htake, Array.toList_setIfInBounds, List.take_set]
theorem leNat_set : ∀ (l : List UInt8) (j : Nat) (c d : UInt8), l[j]? = some c → leNat (l.set j d) + c.toNat * 256 ^ j = leNat l + d.toNat * 256 ^ j
  | [], j, c, d, h => by simp at h
  | b :: l, 0, c, d, h => by simp at h; subst h; simp only [List.set_cons_zero, leNat]; omega
  | b :: l, j + 1, c, d, h => by
    have ih := leNat_set l j c d (by simpa using h)
    simp only [List.set_cons_succ, leNat]
    rw [Nat.pow_succ, ← Nat.mul_assoc, ← Nat.mul_assoc]; omega
/-- A point's bytes. -/
def encP (p : CP) : ByteArray := sbytes (p.y.val + 2 ^ 255 * (p.x.val % 2))
theorem sbytes_top (n : Nat) (h : n < 2 ^ 255) : (⟨((leList 32 n).set 31 (UInt8.ofNat (n / 256 ^ 31 % 256 + 128))).toArray⟩ : ByteArray) = sbytes (n + 2 ^ 255) := by
  have hq : n / 256 ^ 31 < 128 := by omega
  have hg := leList_get 32 n 31 (by omega)
  have hs := leNat_set (leList 32 n) 31 _ (UInt8.ofNat (n / 256 ^ 31 % 256 + 128)) hg
  have e1 : (UInt8.ofNat (n / 256 ^ 31 % 256)).toNat = n / 256 ^ 31 := by rw [UInt8.toNat_ofNat']; omega
  have e2 : (UInt8.ofNat (n / 256 ^ 31 % 256 + 128)).toNat = n / 256 ^ 31 + 128 := by rw [UInt8.toNat_ofNat']; omega
  rw [e1, e2, leNat_leList] at hs
  refine bytes_inj ?_ ?_
  · rw [sbytes_size]; show ((leList 32 n).set 31 _).toArray.size = 32; simp [leList_length]
  · rw [num_sbytes]; show leNat ((leList 32 n).set 31 _) = _
    have : (256 : Nat) ^ 32 = 2 ^ 256 := rfl
    omega
theorem invV (a : Nat → Nat) (ha : Lim 2 a) (w : World) : Calls Try.prog 55 #[.agg (ecell a)] w fun e w' => ∃ h, e = .returned (.agg (ecell h)) ∧ Lim 2 h ∧ lf h = fi (lf a) ∧ Gr w w' :=
  (inv_any a ha w).mono fun _ _ ⟨h, he, hl, hv, hg⟩ => ⟨h, he, hl, by unfold lf; rw [fv_eq hv]; refine Fin.ext ?_; rw [fv_pow _ _ _ rfl]; unfold fi; rw [fv_val]; rfl, hg⟩
/-- A point in limbs, but for its t. -/
structure PB (x y z : Nat → Nat) (p : CP) : Prop where
  lx : Lim 2 x
  ly : Lim 2 y
  lz : Lim 2 z
  rep : Rep (lf x) (lf y) (lf z) p
theorem PR.pb {x y z t : Nat → Nat} {p : CP} (h : PR x y z t p) : PB x y z p := ⟨h.lx, h.ly, h.lz, h.rep⟩
theorem PB.inv_x {x y z : Nat → Nat} {p : CP} (h : PB x y z p) : lf x * fi (lf z) = p.x := by
  rw [h.rep.x]; have := fi_mul h.rep.z; grind
theorem PB.inv_y {x y z : Nat → Nat} {p : CP} (h : PB x y z p) : lf y * fi (lf z) = p.y := by
  rw [h.rep.y]; have := fi_mul h.rep.z; grind
theorem u8_or128 (n : Nat) (h : n < 128) : bits .or .u8 (n : Int) 128 = ((n + 128 : Nat) : Int) := by
  have : ∀ n : Fin 128, bits .or .u8 (n.val : Int) 128 = ((n.val + 128 : Nat) : Int) := by decide +kernel
  exact this ⟨n, h⟩
set_option maxRecDepth 100000 in
set_option maxHeartbeats 4000000 in
theorem bytes_pr {x y z t : Nat → Nat} {p : CP} (hp : PB x y z p) (w : World) :
    Calls Try.prog 31 #[.agg (pcell x y z t)] w fun e w' => e = .returned (.string (encP p)) ∧ Gr w w' := by
  have hz := zeroE
  obtain ⟨W0, hW0⟩ : ∃ W, W = w.alloc (.cells (pcell x y z t) 43) := ⟨_, rfl⟩
  have g0 : W0.heap[w.heap.size]? = some (.cells (pcell x y z t) 43 (0, 0)) := by rw [hW0]; exact heap_alloc_new _ _
  have GP := Box.mk g0; have B0 := Box.mk (show Gr w W0 from by rw [hW0]; exact Gr.alloc _ _); have HP := Box.mk hp
  clear g0 hp
  obtain ⟨bp, hbp⟩ : ∃ b, b = w.heap.size := ⟨_, rfl⟩
  have hgp : w.heap.size ≤ bp := by omega
  rw [← hbp] at GP
  go_enter Try.func31, Try.ntmps31
  go_upto_region 1 with (fail)
  rw [← hW0, ← hbp]
  clear hW0 hz hbp
  refine wp_region_seq 4 [.flo, .flo, .cha, .new (.cells (ecell f0) 41)] (by rfl) rfl (by decide) ?_
  simp only [List.take, List.zip, List.zipWith]
  refine gm_field 2 10 (.tmp 1) rfl bp rfl (field2 bp) ?_
  try go_frame
  refine gm_loadF (.tmp 5) rfl bp 10 z (pcell x y z t) GP.out (sub_z _ _ _ _) rfl ?_
  try go_frame
  refine gm_call [.agg (ecell z)] (by kernel_rfl) rfl rfl Stb.tt (fun w1 hw1 _ => (invV z HP.out.lz w1).mono ?_)
  rintro e w2 ⟨i, rfl, hl, hv, hw2⟩
  refine ⟨_, rfl, hw2, ?_⟩
  try go_frame
  have Li := Box.mk hl; have Vi := Box.mk hv
  clear hl hv
  refine gm_alloc rfl (.cells (ecell f0) 41) (fun _ => by kernel_rfl) (fun bi hbi hnebi => ?_)
  try go_frame
  refine gm_nil ?_
  intro w7 hw7 hF7
  simp only [List.drop]
  try go_frame
  have HN0 := Box.mk (show w7.heap[bi]? = some (.cells (ecell f0) 41 (0, 0)) from hF7.2)
  obtain ⟨W1, hWn⟩ : ∃ W, W = (w7.setRow bi (ecell i)) := ⟨_, rfl⟩
  go_upto_region 2 with ((with_reducible refine wpList_storeE rfl (.tmp 3) (.tmp 7) rfl bi i f0 HN0.out ?_ ?_ ?_); rfl; rfl)
  try go_frame
  rw [← hWn]
  have hgn : Gr W0 W1 := by rw [hWn]; exact (hw7.setRow hbi _)
  replace GP := Box.mk (hgn.block GP.out)
  have GI := Box.mk (show W1.heap[bi]? = some (.cells (ecell i) 41 (0, 0)) from by rw [hWn]; exact setRow_heap _ _ _ _ _ _ HN0.out)
  replace B0 := Box.mk (B0.out.trans hgn)
  clear hWn hgn hF7 hw7 HN0 hbi hnebi
  refine wp_region_seq 5 [.flo, .flo, .flo, .cha, .cha] (by rfl) rfl (by decide) ?_
  simp only [List.take, List.zip, List.zipWith]
  refine gm_field 1 5 (.tmp 1) rfl bp rfl (field1 bp) ?_
  try go_frame
  refine gm_loadF (.tmp 8) rfl bp 5 y (pcell x y z t) GP.out (sub_y _ _ _ _) rfl ?_
  try go_frame
  refine gm_loadE (.tmp 3) rfl bi i GI.out rfl ?_
  try go_frame
  refine gm_call [.agg (ecell y), .agg (ecell i)] (by kernel_rfl) rfl rfl Stb.tt (fun w1 hw1 _ => (mulV y i HP.out.ly Li.out w1).mono ?_)
  rintro e w2 ⟨yi, rfl, hl, hv, hw2⟩
  refine ⟨_, rfl, hw2, ?_⟩
  try go_frame
  have Lyi := Box.mk hl
  rw [Vi.out, HP.out.inv_y] at hv
  have Vyi := Box.mk hv
  clear hl hv
  refine gm_call [.agg (ecell yi)] (by kernel_rfl) rfl rfl Stb.tt (fun w1 hw1 _ => (bytes_any yi Lyi.out.zero w1).mono ?_)
  rintro e w2 ⟨rfl, hw2⟩
  refine ⟨_, rfl, hw2, ?_⟩
  try go_frame
  refine gm_nil ?_
  intro w7 hw7 _
  simp only [List.drop]
  try go_frame
  have hn : lv yi % fp = p.y.val := by rw [← Vyi.out]; rfl
  rw [hn]
  obtain ⟨cap, C, fr, hcv, hown⟩ := run_tobytes (P := Try.prog) 9 31 5 (sbytes p.y.val) Try.underlying9 Try.underlying31 Try.underlying5 (by rw [sbytes_size]; omega) w.heap.size w7 (by have := B0.out.size; have := hw7.size; omega)
  obtain ⟨W2, hW2⟩ : ∃ W, W = (w7.alloc (.cells C 5 fr)).drew := ⟨_, rfl⟩
  rw [← hW2] at hcv
  have hg2 : Gr w7 W2 := by rw [hW2]; exact bdrewN (Gr.alloc w7 _) 1
  obtain ⟨bb, hbb⟩ : ∃ b, b = w7.heap.size := ⟨_, rfl⟩
  rw [← hbb] at hcv hown
  have OW := Box.mk (show Own W2 w.heap.size 5 (.slice (some ⟨bb, 0, none⟩) 32 cap) 32 ((leList 32 p.y.val).map byv) from by rw [hW2]; exact hown.drew)
  rw [sbytes_size] at hcv
  go_upto_region 3 with (fail)
  try go_frame
  rw [← hW2, ← hbb]
  replace GP := Box.mk ((hw7.trans hg2).block GP.out); replace GI := Box.mk ((hw7.trans hg2).block GI.out); replace B0 := Box.mk (B0.out.trans (hw7.trans hg2))
  have hbge : w.heap.size ≤ bb := (OW.out.lt _ rfl).1
  clear hcv hown hg2 hw7 hW2 hbb hn
  refine wp_region_seq 5 [.flo, .flo, .flo, .cha, .cha] (by rfl) rfl (by decide) ?_
  simp only [List.take, List.zip, List.zipWith]
  refine gm_field 0 0 (.tmp 1) rfl bp rfl (field0 bp) ?_
  try go_frame
  refine gm_loadF (.tmp 14) rfl bp 0 x (pcell x y z t) GP.out (sub_x _ _ _ _) rfl ?_
  try go_frame
  refine gm_loadE (.tmp 3) rfl bi i GI.out rfl ?_
  try go_frame
  refine gm_call [.agg (ecell x), .agg (ecell i)] (by kernel_rfl) rfl rfl Stb.tt (fun w1 hw1 _ => (mulV x i HP.out.lx Li.out w1).mono ?_)
  rintro e w2 ⟨xi, rfl, hl, hv, hw2⟩
  refine ⟨_, rfl, hw2, ?_⟩
  try go_frame
  have Lxi := Box.mk hl
  rw [Vi.out, HP.out.inv_x] at hv
  have hnx : lv xi % fp = p.x.val := by rw [← hv]; rfl
  clear hl hv
  refine gm_call [.agg (ecell xi)] (by kernel_rfl) rfl rfl Stb.tt (fun w1 hw1 _ => (odd_any xi Lxi.out.zero w1).mono ?_)
  rintro e w2 ⟨rfl, hw2⟩
  refine ⟨_, rfl, hw2, ?_⟩
  try go_frame
  rw [hnx]
  refine gm_nil ?_
  intro w8 hw8 _
  simp only [List.drop]
  try go_frame
  replace OW := Box.mk (OW.out.below hw8); replace B0 := Box.mk (B0.out.trans hw8)
  clear hw8 hnx
  have hyl : p.y.val < 2 ^ 255 := Nat.lt_of_lt_of_le p.y.isLt (by rw [fp_eq]; decide)
  have hodd : oddB p.x.val = decide (p.x.val % 2 = 1) := by unfold oddB; rw [Bool.eq_iff_iff]; simp
  by_cases hx : p.x.val % 2 = 1
  · rw [decide_eq_true hx] at hodd
    rw [hodd]
    have hi31 : ((leList 32 p.y.val).map byv)[31]? = some (byv (UInt8.ofNat (p.y.val / 256 ^ 31 % 256))) := by rw [List.getElem?_map, leList_get 32 _ 31 (by omega)]; rfl
    obtain ⟨hc, hf⟩ := Own.at OW.out 31 _ hi31
    have hq : p.y.val / 256 ^ 31 < 128 := by omega
    have hbv : byv (UInt8.ofNat (p.y.val / 256 ^ 31 % 256)) = .int .u8 ((p.y.val / 256 ^ 31 : Nat) : Int) := by
      unfold byv; congr 2; rw [UInt8.toNat_ofNat']; omega
    have hbv2 : byv (UInt8.ofNat (p.y.val / 256 ^ 31 % 256 + 128)) = .int .u8 ((p.y.val / 256 ^ 31 + 128 : Nat) : Int) := by
      unfold byv; congr 2; rw [UInt8.toNat_ofNat']; omega
    have hset := Own.set OW.out 31 (byv (UInt8.ofNat (p.y.val / 256 ^ 31 % 256 + 128))) (by omega)
    rw [← List.map_set] at hset
    have hst := run_str_Own (P := Try.prog) (src := 31) (dst := 9) hset (by intro h; cases h) Try.underlying31 Try.underlying5 Try.underlying9
    rw [sbytes_top _ hyl, hbv2] at hst
    rw [hbv] at hc
    have hen : encP p = sbytes (p.y.val + 2 ^ 255) := by unfold encP; rw [hx]
    rw [← hen] at hst
    generalize p.y.val / 256 ^ 31 = q at hc hq hst
    have hor := u8_or128 q hq
    obtain ⟨r, hr⟩ : ∃ r, r = q + 128 := ⟨_, rfl⟩
    rw [← hr] at hor hst
    clear hr hq
    clear hset hbv hbv2 hi31 hyl hen hodd hx
    go_wp2_with fail
    go_ret
    exact ⟨rfl, B0.out.setCell hbge _⟩
  · rw [decide_eq_false hx] at hodd
    rw [hodd]
    have hst := run_str_Own (P := Try.prog) (src := 31) (dst := 9) OW.out (by intro h; cases h) Try.underlying31 Try.underlying5 Try.underlying9
    have hen : encP p = ⟨(leList 32 p.y.val).toArray⟩ := by unfold encP; rw [show p.x.val % 2 = 0 by omega]; rfl
    rw [← hen] at hst
    clear hyl hen hodd hx
    go_wp2_with fail
    go_ret
    exact ⟨rfl, B0.out⟩
theorem bytes_pt {x y z t : Nat → Nat} {p : CP} (hp : PR x y z t p) (w : World) :
    Calls Try.prog 31 #[.agg (pcell x y z t)] w fun e w' => e = .returned (.string (encP p)) ∧ Gr w w' := bytes_pr hp.pb w
end Go.Proofs.Ytpgichfagodkpaa.Fe
