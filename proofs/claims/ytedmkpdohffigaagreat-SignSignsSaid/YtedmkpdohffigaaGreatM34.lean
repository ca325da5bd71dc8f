/- The document of sha2: One of both kinds. The document of sign: the scalar of a sum, a seed's secret, key, signature. The document of sign: Public, Sign, Verify. The document of sign: Verify. -/
import Derived.Test.YtedmkpdohffigaaGreatM33
import Derived.Test.YtedmkpdohffigaaGreatM08
import Derived.Test.YtedmkpdohffigaaGreatM28
import Derived.Test.YtedmkpdohffigaaGreatM31
namespace Go.Proofs.YtedmkpdohffigaaGreat.Big
set_option linter.unusedVariables false
open Go Go.RowKit
open Sha
theorem doneB_any (k : Int) (hk : Kind k) (s : ByteArray) (hs : s.size ≤ 500000) (w : World) :
    Calls Tryz.prog 38 #[.int .i64 k, .string s] w fun e w' => e = .returned (.tuple #[.string (sumS k s.data.toList), .int .i64 0]) ∧ Below w.heap.size w w' := by
  rcases hk with rfl | rfl
  · exact one32_any s (by omega) w
  · exact one64_any s (by omega) w
theorem doneB_no (k : Int) (hk : ¬ Kind k) (s : ByteArray) (w : World) :
    Calls Tryz.prog 38 #[.int .i64 k, .string s] w fun e w' => e = .returned (.tuple #[.string ⟨#[]⟩, .int .i64 30]) ∧ w = w' := by
  have k0 : (k != 0) = true := by rw [bne_iff_ne]; exact fun e => hk (.inl e)
  have k1 : (k != 1) = true := by rw [bne_iff_ne]; exact fun e => hk (.inr e)
  clear hk
  go_enter Tryz.func38, Tryz.ntmps38
  go_wp2_with fail
  go_ret2
  exact ⟨rfl, rfl⟩
end Go.Proofs.YtedmkpdohffigaaGreat.Big
namespace Go.Proofs.YtedmkpdohffigaaGreat.Fe
set_option linter.unusedVariables false
open Go Go.RowKit

theorem dred_any (s : ByteArray) (hs : s.size ≤ 500000) (w : World) : Calls Tryz.prog 22 #[.string s] w fun e w' => e = .returned (.string (redL s.data.toList)) ∧ Gr w w' := by
  have HONE := Box.mk (fun v => Big.doneB_any 1 (.inr rfl) s hs v)
  obtain ⟨H, hH⟩ : ∃ H, H = sumS 1 s.data.toList := ⟨_, rfl⟩
  have HSZ := Box.mk (show H.size = 64 from by rw [hH]; exact size64 _)
  have ER := Box.mk (show redL s.data.toList = sc (Go.Proofs.YtedmkpdohffigaaGreat.num H) from by rw [hH]; rfl)
  obtain ⟨R, hR⟩ : ∃ R, R = redL s.data.toList := ⟨_, rfl⟩
  rw [← hR] at ER ⊢
  rw [← hH] at HONE
  clear hH hs hR
  go_enter Tryz.func22, Tryz.ntmps22
  go_wp2_with fail
  refine (HONE.out _).mono ?_
  rintro e w1 ⟨rfl, k⟩
  have G := Box.mk (Gr.of k); clear k HONE
  go_wp2_with fail
  refine (Go.Proofs.YtedmkpdohffigaaGreat.digits_any H _ (by have := HSZ.out; omega)).mono ?_
  rintro e w2 ⟨b, cap, hb, hbl, rfl, hrow, hb1⟩
  have G2 := Box.mk (G.out.trans (Gr.of hb1))
  go_wp2_with fail
  refine (Go.Proofs.YtedmkpdohffigaaGreat.refMod_any (Go.Proofs.YtedmkpdohffigaaGreat.num H) H.size b cap _ (Go.Proofs.YtedmkpdohffigaaGreat.leNat_lt _) (by have := HSZ.out; omega) hrow hbl).mono ?_
  rintro e w3 ⟨rfl, hb2⟩
  have G3 := Box.mk (G2.out.trans (Gr.of hb2))
  rw [← ER.out]
  clear hrow hb1 hb2 hb hbl
  go_wp2
  go_ret
  exact ⟨rfl, G3.out⟩
theorem u8_lo (c : UInt8) : c.toNat / 8 * 8 = (c &&& 248).toNat := by
  have : ∀ n : Fin 256, n.val / 8 * 8 = ((UInt8.ofNat n.val) &&& 248).toNat := by decide +kernel
  have h := this ⟨c.toNat, c.toNat_lt⟩
  simpa using h
theorem u8_hi (c : UInt8) : c.toNat % 64 + 64 = ((c &&& 63) ||| 64).toNat := by
  have : ∀ n : Fin 256, n.val % 64 + 64 = (((UInt8.ofNat n.val) &&& 63) ||| 64).toNat := by decide +kernel
  have h := this ⟨c.toNat, c.toNat_lt⟩
  simpa using h
set_option maxRecDepth 100000 in
set_option maxHeartbeats 4000000 in
theorem dsec_any (s : ByteArray) (hs : s.size ≤ 500000) (w : World) : Calls Tryz.prog 16 #[.string s] w fun e w' => e = .returned (.tuple #[.string (secS s), .string (preS s)]) ∧ Gr w w' := by
  have HONE := Box.mk (fun v => Big.doneB_any 1 (.inr rfl) s hs v)
  obtain ⟨H, hH⟩ : ∃ H, H = sumS 1 s.data.toList := ⟨_, rfl⟩
  have HSZ := Box.mk (show H.size = 64 from by rw [hH]; exact size64 _)
  have ESEC := Box.mk (show secS s = ⟨(secL (H.data.toList.take 32)).toArray⟩ from by rw [hH]; rfl)
  have EPRE := Box.mk (show preS s = H.extract 32 64 from by rw [hH]; rfl)
  rw [← hH] at HONE
  clear hH hs
  go_enter Tryz.func16, Tryz.ntmps16
  go_wp2_with fail
  refine (HONE.out _).mono ?_
  rintro e w1 ⟨rfl, k⟩
  have G := Box.mk (Gr.of k); clear k HONE
  go_upto_region 2 with (fail)
  try go_frame
  refine wp_region_seq 2 [.flo, .flo] (by rfl) rfl (by decide) ?_
  simp only [List.take, List.zip, List.zipWith]
  refine gm_move (.tmp 4) (.inl rfl) (.string H) rfl ?_
  try go_frame
  refine gm_slice (.tmp 12) none (some (.const (.int .i64 32))) none rfl (.string (H.extract 0 32)) (run_lo32 HSZ.out) ?_
  try go_frame
  refine gm_nil ?_
  intro W1 hw7 _
  simp only [List.drop]
  try go_frame
  replace G := Box.mk (G.out.trans hw7); clear hw7
  have hlo := lo_size HSZ.out
  obtain ⟨cap, C, fr, hcv, hown⟩ := run_tobytes (P := Tryz.prog) 9 38 5 (H.extract 0 32) Tryz.underlying9 Tryz.underlying38 Tryz.underlying5 (by omega) w.heap.size W1 (G.out.size)
  obtain ⟨W2, hW2⟩ : ∃ W, W = (W1.alloc (.cells C 5 fr)).drew := ⟨_, rfl⟩
  rw [← hW2] at hcv
  have hg2 : Gr W1 W2 := by rw [hW2]; exact bdrewN (Gr.alloc W1 _) 1
  obtain ⟨bb, hbb⟩ : ∃ b, b = W1.heap.size := ⟨_, rfl⟩
  rw [← hbb] at hcv hown
  rw [hlo] at hcv hown
  obtain ⟨L, hL⟩ : ∃ L, L = H.data.toList.take 32 := ⟨_, rfl⟩
  rw [lo_list, ← hL] at hown
  have hLl : L.length = 32 := by
    rw [hL, List.length_take]
    have : H.data.toList.length = 64 := by rw [← HSZ.out]; simp
    omega
  have OW := Box.mk (show Own W2 w.heap.size 5 (.slice (some ⟨bb, 0, none⟩) 32 cap) 32 (L.map byv) from by rw [hW2]; exact hown.drew)
  go_upto_region 3 with (fail)
  try go_frame
  rw [← hW2, ← hbb]
  replace G := Box.mk (G.out.trans hg2)
  have hbge : w.heap.size ≤ bb := (OW.out.lt _ rfl).1
  clear hcv hown hg2 hW2 hbb hlo
  obtain ⟨c0, h0⟩ : ∃ c, L[0]? = some c := ⟨L[0], List.getElem?_eq_getElem (by omega)⟩
  obtain ⟨c1, h1⟩ : ∃ c, L[31]? = some c := ⟨L[31], List.getElem?_eq_getElem (by omega)⟩
  have i0 : (L.map byv)[0]? = some (byv c0) := by rw [List.getElem?_map, h0]; rfl
  obtain ⟨hc, hf⟩ := Own.at OW.out 0 _ i0
  obtain ⟨d0, hd0⟩ : ∃ d, d = c0 &&& 248 := ⟨_, rfl⟩
  have hlo8 := u8_lo c0
  rw [← hd0] at hlo8
  have HD0 := Box.mk hd0; clear hd0
  have hset := Own.set OW.out 0 (byv d0) (by omega)
  rw [← List.map_set] at hset
  unfold byv at hc
  have hl0 := c0.toNat_lt
  obtain ⟨n0, hn0⟩ : ∃ n, n = c0.toNat := ⟨_, rfl⟩
  obtain ⟨m0, hm0⟩ : ∃ n, n = d0.toNat := ⟨_, rfl⟩
  rw [← hn0] at hc hlo8 hl0
  rw [← hm0] at hlo8
  obtain ⟨q0, hq0⟩ : ∃ q, q = n0 / 8 := ⟨_, rfl⟩
  have v1 : (n0 : Int).tdiv 8 = (q0 : Int) := by rw [Int.tdiv_eq_ediv_of_nonneg (by omega)]; omega
  have v2 : (n0 : Int) / 8 = (q0 : Int) := by omega
  have v3 : IntKind.u8.wrap (q0 : Int) = (q0 : Int) := by rw [IntKind.wrap_u8]; omega
  have v4 : IntKind.u8.wrap ((q0 : Int) * 8) = (m0 : Int) := by rw [IntKind.wrap_u8]; omega
  obtain ⟨W3, hW3⟩ : ∃ W, W = W2.setCell ⟨bb, 0, none⟩ (.int .u8 (m0 : Int)) := ⟨_, rfl⟩
  have OW3 := Box.mk (show Own W3 w.heap.size 5 (.slice (some ⟨bb, 0, none⟩) 32 cap) 32 ((L.set 0 d0).map byv) from by rw [hW3, hm0]; exact hset)
  clear hset i0 hn0 hm0 hq0 hl0 hlo8
  go_upto_region 4 with (fail)
  try go_frame
  rw [← hW3]
  replace G := Box.mk (show Gr w W3 from by rw [hW3]; exact G.out.setCell hbge _)
  clear hW3 hc hf OW v1 v2 v3 v4
  have i1 : ((L.set 0 d0).map byv)[31]? = some (byv c1) := by rw [List.getElem?_map, List.getElem?_set_ne (by omega), h1]; rfl
  obtain ⟨hc, hf⟩ := Own.at OW3.out 31 _ i1
  obtain ⟨d1, hd1⟩ : ∃ d, d = (c1 &&& 63) ||| 64 := ⟨_, rfl⟩
  have hhi8 := u8_hi c1
  rw [← hd1] at hhi8
  have HD1 := Box.mk hd1; clear hd1
  have hset := Own.set OW3.out 31 (byv d1) (by omega)
  rw [← List.map_set] at hset
  unfold byv at hc
  have hl1 := c1.toNat_lt
  obtain ⟨n1, hn1⟩ : ∃ n, n = c1.toNat := ⟨_, rfl⟩
  obtain ⟨m1, hm1⟩ : ∃ n, n = d1.toNat := ⟨_, rfl⟩
  rw [← hn1] at hc hhi8 hl1
  rw [← hm1] at hhi8
  obtain ⟨q1, hq1⟩ : ∃ q, q = n1 % 64 := ⟨_, rfl⟩
  have v1 : (n1 : Int).tmod 64 = (q1 : Int) := by rw [Int.tmod_eq_emod_of_nonneg (by omega)]; omega
  have v2 : (n1 : Int) % 64 = (q1 : Int) := by omega
  have v3 : IntKind.u8.wrap (q1 : Int) = (q1 : Int) := by rw [IntKind.wrap_u8]; omega
  have v4 : IntKind.u8.wrap ((q1 : Int) + 64) = (m1 : Int) := by rw [IntKind.wrap_u8]; omega
  obtain ⟨W4, hW4⟩ : ∃ W, W = W3.setCell ⟨bb, 31, none⟩ (.int .u8 (m1 : Int)) := ⟨_, rfl⟩
  have OW4 := Box.mk (show Own W4 w.heap.size 5 (.slice (some ⟨bb, 0, none⟩) 32 cap) 32 (((L.set 0 d0).set 31 d1).map byv) from by rw [hW4, hm1]; exact hset)
  clear hset i1 hn1 hm1 hq1 hl1 hhi8
  go_upto_region 5 with (fail)
  try go_frame
  rw [← hW4]
  replace G := Box.mk (show Gr w W4 from by rw [hW4]; exact G.out.setCell hbge _)
  clear hW4 hc hf OW3 v1 v2 v3 v4
  have hsec : (⟨((L.set 0 d0).set 31 d1).toArray⟩ : ByteArray) = secS s := by
    rw [ESEC.out, ← hL]
    unfold secL
    rw [List.getD_eq_getElem?_getD, List.getD_eq_getElem?_getD, h0, h1]
    simp only [Option.getD_some]
    rw [← HD0.out, ← HD1.out]
  obtain ⟨sc', hsc⟩ : ∃ t, t = secS s := ⟨_, rfl⟩
  rw [← hsc] at hsec
  have HSC := Box.mk hsc; clear hsc
  refine wp_region_mix 5 [.flo, .flo, .flo, .flo, .flo] (by kernel_rfl) (by kernel_rfl) rfl ?_
  simp only [List.take, List.zip, List.zipWith]
  refine gm_move (.tmp 6) (.inl rfl) (.slice (some ⟨bb, 0, none⟩) 32 cap) rfl ?_
  try go_frame
  refine gm_convS (.tmp 29) rfl (.string sc') (fun wc hwc => by
    have hst := run_str_Own (P := Tryz.prog) (src := 38) (dst := 9) (OW4.out.drew.below (GrS.toGr hwc)) (by intro h; cases h) Tryz.underlying38 Tryz.underlying5 Tryz.underlying9
    rw [hsec] at hst
    exact hst) ?_
  try go_frame
  refine gm_move (.tmp 4) (.inl rfl) (.string H) rfl ?_
  try go_frame
  refine gm_slice (.tmp 31) (some (.const (.int .i64 32))) none none rfl (.string (H.extract 32 64)) (run_hi32 HSZ.out) ?_
  try go_frame
  refine gm_move (.tmp 30) (.inr rfl) (.string sc') rfl ?_
  try go_frame
  refine gm_nil ?_
  intro W5 hw7 _
  simp only [List.drop]
  try go_frame
  replace G := Box.mk (G.out.trans (Gr.trans (show Gr W4 W4.drew from (Below.refl _ _).drew) hw7)); clear hw7
  go_wp2_with fail
  go_ret2
  exact ⟨by rw [EPRE.out, ← HSC.out]; rfl, G.out⟩
end Go.Proofs.YtedmkpdohffigaaGreat.Fe
namespace Go.Proofs.YtedmkpdohffigaaGreat.Fe
set_option linter.unusedVariables false
open Go Go.RowKit

theorem dad (a b : ByteArray) (ha : a.size = 32) (hb : b.size = 32) (w : World) : Calls Tryz.prog 24 #[.string a, .string b] w fun e w' => e = .returned (.tuple #[.string (sc (Go.Proofs.YtedmkpdohffigaaGreat.num a + Go.Proofs.YtedmkpdohffigaaGreat.num b)), .int .i64 0]) ∧ Gr w w' :=
  (Go.Proofs.YtedmkpdohffigaaGreat.refAdd_any a b w).mono fun _ _ ⟨he, hg⟩ => ⟨by rw [he, if_pos ⟨ha, hb⟩], hg⟩
theorem dml (a b : ByteArray) (ha : a.size = 32) (hb : b.size = 32) (w : World) : Calls Tryz.prog 23 #[.string a, .string b] w fun e w' => e = .returned (.tuple #[.string (sc (Go.Proofs.YtedmkpdohffigaaGreat.num a * Go.Proofs.YtedmkpdohffigaaGreat.num b)), .int .i64 0]) ∧ Gr w w' :=
  (Go.Proofs.YtedmkpdohffigaaGreat.refMul_any a b w).mono fun _ _ ⟨he, hg⟩ => ⟨by rw [he, if_pos ⟨ha, hb⟩], hg⟩
theorem dis5 (s : ByteArray) (w : World) : Calls Tryz.prog 29 #[.string s] w fun e w' => e = .returned (.bool (decide (s.size = 32 ∧ Go.Proofs.YtedmkpdohffigaaGreat.num s < ordL))) ∧ Gr w w' := Go.Proofs.YtedmkpdohffigaaGreat.refIs_any s w
theorem cat2 (a b : ByteArray) : (a ++ b).data.toList = catL [a, b] := by simp [catL]
theorem cat3 (a b c : ByteArray) : (a ++ b ++ c).data.toList = catL [a, b, c] := by simp [catL]
theorem dred2 (a b : ByteArray) (ha : a.size ≤ 2000) (hb : b.size ≤ 2000) (w : World) : Calls Tryz.prog 22 #[.string (a ++ b)] w fun e w' => e = .returned (.string (redL (catL [a, b]))) ∧ Gr w w' := by
  rw [← cat2]; exact dred_any _ (by rw [ByteArray.size_append]; omega) w
theorem dred3 (a b c : ByteArray) (ha : a.size ≤ 2000) (hb : b.size ≤ 2000) (hc : c.size ≤ 2000) (w : World) : Calls Tryz.prog 22 #[.string (a ++ b ++ c)] w fun e w' => e = .returned (.string (redL (catL [a, b, c]))) ∧ Gr w w' := by
  rw [← cat3]; exact dred_any _ (by rw [ByteArray.size_append, ByteArray.size_append]; omega) w
set_option maxRecDepth 100000 in
set_option maxHeartbeats 4000000 in
theorem dpub_yes (s : ByteArray) (hs : s.size = 32) (w : World) : Calls Tryz.prog 7 #[.string s] w fun e w' => ∃ t, Box (Pt t (CP.base.mul (Go.Proofs.YtedmkpdohffigaaGreat.num (secS s)))) ∧ e = .returned (.tuple #[.string t, .int .i64 0]) ∧ Gr w w' := by
  have HP := Box.mk (fun v => dsec_any s (by omega) v)
  obtain ⟨a, ha⟩ : ∃ a, a = secS s := ⟨_, rfl⟩
  obtain ⟨b, hb⟩ : ∃ b, b = preS s := ⟨_, rfl⟩
  have HA := Box.mk (show a.size = 32 from by rw [ha]; exact secS_size s)
  rw [← ha, ← hb] at HP
  rw [← ha]
  have hsB : ((s.size : Int) != 32) = false := by rw [bne_eq_false_iff_eq]; omega
  clear ha hb hs
  go_enter Tryz.func7, Tryz.ntmps7
  go_wp2_with fail
  refine (HP.out _).mono ?_
  rintro e w1 ⟨rfl, k⟩
  have G := Box.mk (Gr.of k); clear k
  go_wp2_with fail
  refine (ddbase _).mono ?_
  rintro e w2 ⟨B, HB, rfl, k⟩
  replace G := Box.mk (G.out.trans k); clear k
  go_wp2_with fail
  refine (ddmul HB.out HA.out _).mono ?_
  rintro e w3 ⟨T, HT, rfl, k⟩
  replace G := Box.mk (G.out.trans k); clear k
  go_wp2
  go_ret2
  exact ⟨T, HT, rfl, G.out⟩
theorem dpub_no (s : ByteArray) (hs : s.size ≠ 32) (w : World) : Calls Tryz.prog 7 #[.string s] w fun e w' => e = .returned (.tuple #[.string ⟨#[]⟩, .int .i64 70]) ∧ Gr w w' := by
  have hsB : ((s.size : Int) != 32) = true := by rw [bne_iff_ne]; omega
  clear hs
  go_enter Tryz.func7, Tryz.ntmps7
  go_wp2
  go_ret2
  exact ⟨rfl, Gr.refl _⟩
set_option maxRecDepth 100000 in
set_option maxHeartbeats 4000000 in
theorem dsign_yes (s m : ByteArray) (hs : s.size = 32) (hm : m.size ≤ 1000) (w : World) : Calls Tryz.prog 9 #[.string s, .string m] w fun e w' => ∃ t, Box (SigOf s m t) ∧ e = .returned (.tuple #[.string t, .int .i64 0]) ∧ Gr w w' := by
  have HP := Box.mk (fun v => dsec_any s (by omega) v); have HPU := Box.mk (dpub_yes s hs); have HM := Box.mk hm
  obtain ⟨a, ha⟩ : ∃ a, a = secS s := ⟨_, rfl⟩
  obtain ⟨b, hb⟩ : ∃ b, b = preS s := ⟨_, rfl⟩
  have HA := Box.mk (show a.size = 32 from by rw [ha]; exact secS_size s)
  have HB := Box.mk (show b.size = 32 from by rw [hb]; exact hi_size (size64 _))
  have EA := Box.mk ha; have EB := Box.mk hb
  rw [← ha] at HPU
  rw [← ha, ← hb] at HP
  have hadd1 : b.size + m.size ≤ 9223372036854775807 := by have := HB.out; omega
  clear ha hb hs hm
  go_enter Tryz.func9, Tryz.ntmps9
  go_wp2_with fail
  refine (HPU.out _).mono ?_
  rintro e w6 ⟨K, HK, rfl, k⟩
  have G := Box.mk (Gr.of k); clear k
  go_wp2_with fail
  refine (HP.out _).mono ?_
  rintro e w5 ⟨rfl, k⟩
  replace G := Box.mk (G.out.trans k); clear k
  go_wp2_with fail
  refine (dred2 b m (by have := HB.out; omega) (by have := HM.out; omega) _).mono ?_
  rintro e w7 ⟨rfl, k⟩
  replace G := Box.mk (G.out.trans k); clear k
  obtain ⟨r, hr⟩ : ∃ r, r = redL (catL [b, m]) := ⟨_, rfl⟩
  rw [← hr]
  have HR := Box.mk (show r.size = 32 from by rw [hr]; exact redL_size _); have ER := Box.mk hr
  clear hr hadd1
  go_wp2_with fail
  refine (ddbase _).mono ?_
  rintro e w8 ⟨B0, HB0, rfl, k⟩
  replace G := Box.mk (G.out.trans k); clear k
  go_wp2_with fail
  refine (ddmul HB0.out HR.out _).mono ?_
  rintro e w9 ⟨R, HRP, rfl, k⟩
  replace G := Box.mk (G.out.trans k); clear k
  have hRz := HRP.out.size; have hKz := HK.out.size
  have hadd2 : R.size + K.size ≤ 9223372036854775807 := by omega
  have hadd3 : (R ++ K).size + m.size ≤ 9223372036854775807 := by rw [ByteArray.size_append]; have := HM.out; omega
  have hadd4 : R.size + K.size + m.size ≤ 9223372036854775807 := by have := HM.out; omega
  clear hRz hKz
  go_wp2_with fail
  refine (dred3 R K m (by have := HRP.out.size; omega) (by have := HK.out.size; omega) (by have := HM.out; omega) _).mono ?_
  rintro e w10 ⟨rfl, k⟩
  replace G := Box.mk (G.out.trans k); clear k
  obtain ⟨h, hh⟩ : ∃ h, h = redL (catL [R, K, m]) := ⟨_, rfl⟩
  rw [← hh]
  have HH := Box.mk (show h.size = 32 from by rw [hh]; exact redL_size _); have EH := Box.mk hh
  clear hh hadd2 hadd3 hadd4
  go_wp2_with fail
  refine (dml h a HH.out HA.out _).mono ?_
  rintro e w11 ⟨rfl, k⟩
  replace G := Box.mk (G.out.trans k); clear k
  obtain ⟨q, hq⟩ : ∃ q, q = sc (Go.Proofs.YtedmkpdohffigaaGreat.num h * Go.Proofs.YtedmkpdohffigaaGreat.num a) := ⟨_, rfl⟩
  rw [← hq]
  have HQ := Box.mk (show q.size = 32 from by rw [hq]; exact sc_size _); have EQ := Box.mk hq
  clear hq
  go_wp2_with fail
  refine (dad r q HR.out HQ.out _).mono ?_
  rintro e w12 ⟨rfl, k⟩
  replace G := Box.mk (G.out.trans k); clear k
  obtain ⟨S, hS⟩ : ∃ z, z = sc (Go.Proofs.YtedmkpdohffigaaGreat.num r + Go.Proofs.YtedmkpdohffigaaGreat.num q) := ⟨_, rfl⟩
  rw [← hS]
  have ES := Box.mk hS
  have hRs := HRP.out.size
  have hSs : S.size = 32 := by rw [hS]; exact sc_size _
  have hadd : R.size + S.size ≤ 9223372036854775807 := by omega
  clear hS hRs hSs
  go_wp2
  go_ret2
  refine ⟨R ++ S, ⟨⟨R, K, S, rfl, ?_, ?_, ?_⟩⟩, rfl, G.out⟩
  · rw [← EB.out, ← ER.out]; exact HRP.out
  · rw [← EA.out]; exact HK.out
  · rw [← EB.out, ← ER.out, ← EA.out, ← EH.out, ← EQ.out]; exact ES.out
theorem dsign_no (s m : ByteArray) (hs : s.size ≠ 32) (w : World) : Calls Tryz.prog 9 #[.string s, .string m] w fun e w' => e = .returned (.tuple #[.string ⟨#[]⟩, .int .i64 70]) ∧ Gr w w' := by
  have HP := Box.mk (dpub_no s hs)
  clear hs
  go_enter Tryz.func9, Tryz.ntmps9
  go_wp2_with fail
  refine (HP.out _).mono ?_
  rintro e w13 ⟨rfl, k⟩
  have G := Box.mk (Gr.of k); clear k
  go_wp2
  go_ret2
  exact ⟨rfl, G.out⟩
theorem SigOf.uniq {s m t u : ByteArray} (h : SigOf s m t) (k : SigOf s m u) : t = u := by
  obtain ⟨R, K, S, h1, h2, h3, h4⟩ := h.mk'
  obtain ⟨R', K', S', k1, k2, k3, k4⟩ := k.mk'
  obtain rfl : R = R' := h2.eq.trans k2.eq.symm
  obtain rfl : K = K' := h3.eq.trans k3.eq.symm
  rw [h1, k1, h4, k4]
end Go.Proofs.YtedmkpdohffigaaGreat.Fe
namespace Go.Proofs.YtedmkpdohffigaaGreat.Fe
set_option linter.unusedVariables false
open Go Go.RowKit
set_option maxRecDepth 100000 in
set_option maxHeartbeats 4000000 in
theorem dver_any (key m sig : ByteArray) (hm : m.size ≤ 1000) (w : World) : Calls Tryz.prog 12 #[.string key, .string m, .string sig] w fun e w' => ∃ b, e = .returned (.bool b) ∧ (b = true ↔ VerP key m sig) ∧ Gr w w' := by
  have HM := Box.mk hm; clear hm
  by_cases hs : sig.size = 64
  · have hsI : (sig.size : Int) = 64 := by omega
    have hsB : ((sig.size : Int) != 64) = false := by rw [bne_eq_false_iff_eq]; omega
    have HS := Box.mk hs; clear hs
    rcases pt_or key with ⟨A, h⟩ | h
    · have HA := Box.mk h; clear h
      obtain ⟨P, hP⟩ : ∃ P, P = sig.extract 0 32 := ⟨_, rfl⟩
      obtain ⟨S, hS⟩ : ∃ S, S = sig.extract 32 64 := ⟨_, rfl⟩
      have HP := Box.mk hP; have HSS := Box.mk hS
      have hPs : P.size = 32 := by rw [hP]; exact lo_size HS.out
      have hSs : S.size = 32 := by rw [hS]; exact hi_size HS.out
      have HPZ := Box.mk hPs; have HSZ := Box.mk hSs
      clear hPs hSs hP hS
      rcases pt_or P with ⟨R, h⟩ | h
      · have HR := Box.mk h; clear h
        by_cases hlt : S.size = 32 ∧ Go.Proofs.YtedmkpdohffigaaGreat.num S < ordL
        · have HIS := Box.mk (fun v => (decide_eq_true hlt) ▸ dis5 S v)
          have HLT := Box.mk (show Go.Proofs.YtedmkpdohffigaaGreat.num S < oL from by rw [oL_ordL]; exact hlt.2)
          clear hlt
          go_enter Tryz.func12, Tryz.ntmps12
          go_wp2_with fail
          refine (ddis HA.out _).mono ?_
          rintro e w14 ⟨rfl, k⟩
          have G := Box.mk (Gr.of k); clear k
          go_wp2_with fail
          rw [← HP.out]
          refine (ddis HR.out _).mono ?_
          rintro e w15 ⟨rfl, k⟩
          replace G := Box.mk (G.out.trans k); clear k
          go_wp2_with fail
          rw [show sig.extract 32 sig.size = S from by rw [HS.out]; exact HSS.out.symm]
          refine (HIS.out _).mono ?_
          rintro e w16 ⟨rfl, k⟩
          replace G := Box.mk (G.out.trans k); clear k
          go_upto_region 3 with (fail)
          try go_frame
          refine wp_region_mix 8 [.flo, .flo, .cha, .cha, .flo, .flo, .flo, .flo] (by kernel_rfl) (by kernel_rfl) rfl ?_
          simp only [List.take, List.zip, List.zipWith]
          refine gm_move (.tmp 2) (.inl rfl) (.string sig) rfl ?_
          try go_frame
          refine gm_slice (.tmp 34) (some (.const (.int .i64 32))) none none rfl (.string S) (by rw [HSS.out]; exact run_hi32 HS.out) ?_
          try go_frame
          refine gm_call [] (by kernel_rfl) rfl rfl Stb.tt (fun v1 hv1 _ => (ddbase v1).mono ?_)
          rintro e v2 ⟨B0, HB0, rfl, hv2⟩
          refine ⟨_, rfl, hv2, ?_⟩
          clear hv1 hv2 v1 v2
          try go_frame
          refine gm_call [.string S, .string B0] (by kernel_rfl) rfl rfl Stb.tt (fun v1 hv1 _ => (ddmul HB0.out HSZ.out v1).mono ?_)
          rintro e v2 ⟨L, HL, rfl, hv2⟩
          refine ⟨_, rfl, hv2, ?_⟩
          clear hv1 hv2 v1 v2
          try go_frame
          refine gm_move (.tmp 37) (.inl rfl) (.tuple #[.string L, .int .i64 0]) rfl ?_
          try go_frame
          refine gm_extract (vs := #[.string L, .int .i64 0]) (.tmp 33) 0 rfl rfl (.string L) rfl ?_
          try go_frame
          refine gm_extract (vs := #[.string L, .int .i64 0]) (.tmp 33) 1 rfl rfl (.int .i64 0) rfl ?_
          try go_frame
          refine gm_move (.tmp 38) (.inr rfl) (.string L) rfl ?_
          try go_frame
          refine gm_nil ?_
          intro W1 hw7 _
          simp only [List.drop]
          try go_frame
          replace G := Box.mk (G.out.trans (Gr.trans (show Gr w16 w16.drew from (Below.refl _ _).drew) hw7)); clear hw7
          have hKz := HA.out.size; have hPz := HPZ.out
          have hex : (sig.extract 0 32).size = 32 := by rw [← HP.out]; exact hPz
          have hadd2 : (sig.extract 0 32).size + key.size ≤ 9223372036854775807 := by omega
          have hadd3 : (sig.extract 0 32 ++ key).size + m.size ≤ 9223372036854775807 := by rw [ByteArray.size_append]; have := HM.out; omega
          have hadd4 : (sig.extract 0 32).size + key.size + m.size ≤ 9223372036854775807 := by have := HM.out; omega
          clear hPz hKz
          go_wp2_with fail
          clear hadd2 hadd3 hadd4 hex
          rw [← HP.out]
          refine (dred3 P key m (by have := HPZ.out; omega) (by have := HA.out.size; omega) (by have := HM.out; omega) _).mono ?_
          rintro e w19 ⟨rfl, k⟩
          replace G := Box.mk (G.out.trans k); clear k
          obtain ⟨h, hh⟩ : ∃ h, h = redL (catL [P, key, m]) := ⟨_, rfl⟩
          rw [← hh]
          have HH := Box.mk (show h.size = 32 from by rw [hh]; exact redL_size _); have EH := Box.mk hh
          clear hh
          go_wp2_with fail
          refine (ddmul HA.out HH.out _).mono ?_
          rintro e w20 ⟨K, HK, rfl, k⟩
          replace G := Box.mk (G.out.trans k); clear k
          go_wp2_with fail
          try rw [← HP.out]
          refine (ddadd HR.out HK.out _).mono ?_
          rintro e w21 ⟨T, HT, rfl, k⟩
          replace G := Box.mk (G.out.trans k); clear k
          by_cases hq : CP.base.mul (Go.Proofs.YtedmkpdohffigaaGreat.num S) = R.add (A.mul (Go.Proofs.YtedmkpdohffigaaGreat.num h))
          · have q1 : (L.toList == T.toList) = true := HL.out.same HT.out hq
            have HQ := Box.mk hq; clear hq
            go_wp2
            go_ret
            exact ⟨true, rfl, ⟨fun _ => ⟨A, R, HA.out, HS.out, HP.out ▸ HR.out, HSS.out ▸ HLT.out, by rw [← HP.out, ← HSS.out, ← EH.out]; exact HQ.out⟩, fun _ => rfl⟩, G.out⟩
          · have q1 : (L.toList == T.toList) = false := HL.out.other HT.out hq
            have HQ := Box.mk hq; clear hq
            go_wp2
            go_ret
            refine ⟨false, rfl, ⟨(fun h => by cases h), fun ⟨A', R', h1, _, h2, _, h3⟩ => (HQ.out ?_).elim⟩, G.out⟩
            obtain rfl : A' = A := encP_inj (h1.eq.symm.trans HA.out.eq)
            rw [← HP.out] at h2 h3
            obtain rfl : R' = R := encP_inj (h2.eq.symm.trans HR.out.eq)
            rw [← HSS.out, ← EH.out] at h3
            exact h3
        · have HIS := Box.mk (fun v => (decide_eq_false hlt) ▸ dis5 S v)
          have HLT := Box.mk hlt
          clear hlt
          go_enter Tryz.func12, Tryz.ntmps12
          go_wp2_with fail
          refine (ddis HA.out _).mono ?_
          rintro e w14 ⟨rfl, k⟩
          have G := Box.mk (Gr.of k); clear k
          go_wp2_with fail
          rw [← HP.out]
          refine (ddis HR.out _).mono ?_
          rintro e w22 ⟨rfl, k⟩
          replace G := Box.mk (G.out.trans k); clear k
          go_wp2_with fail
          rw [show sig.extract 32 sig.size = S from by rw [HS.out]; exact HSS.out.symm]
          refine (HIS.out _).mono ?_
          rintro e w23 ⟨rfl, k⟩
          replace G := Box.mk (G.out.trans k); clear k
          go_wp2
          go_ret
          refine ⟨false, rfl, ⟨(fun h => by cases h), fun ⟨_, _, _, _, _, h, _⟩ => (HLT.out ⟨HSZ.out, ?_⟩).elim⟩, G.out⟩
          rw [← HSS.out, oL_ordL] at h; exact h
      · have HN := Box.mk h; clear h
        go_enter Tryz.func12, Tryz.ntmps12
        go_wp2_with fail
        refine (ddis HA.out _).mono ?_
        rintro e w14 ⟨rfl, k⟩
        have G := Box.mk (Gr.of k); clear k
        go_wp2_with fail
        rw [← HP.out]
        refine (ddis_no HN.out _).mono ?_
        rintro e w24 ⟨rfl, k⟩
        replace G := Box.mk (G.out.trans k); clear k
        go_wp2
        go_ret
        refine ⟨false, rfl, ⟨(fun h => by cases h), fun ⟨_, R, _, _, h, _⟩ => (HN.out R ?_).elim⟩, G.out⟩
        rw [HP.out]; exact h.eq.symm
    · have HN := Box.mk h; clear h
      go_enter Tryz.func12, Tryz.ntmps12
      go_wp2_with fail
      refine (ddis_no HN.out _).mono ?_
      rintro e w25 ⟨rfl, k⟩
      have G := Box.mk (Gr.of k); clear k
      go_wp2
      go_ret
      exact ⟨false, rfl, ⟨(fun h => by cases h), fun ⟨A, _, h, _⟩ => (HN.out A h.eq.symm).elim⟩, G.out⟩
  · have hsB : ((sig.size : Int) != 64) = true := by rw [bne_iff_ne]; omega
    have HS := Box.mk hs; clear hs
    go_enter Tryz.func12, Tryz.ntmps12
    go_wp2
    go_ret
    exact ⟨false, rfl, ⟨(fun h => by cases h), fun ⟨_, _, _, h, _⟩ => (HS.out h).elim⟩, Gr.refl _⟩
end Go.Proofs.YtedmkpdohffigaaGreat.Fe
