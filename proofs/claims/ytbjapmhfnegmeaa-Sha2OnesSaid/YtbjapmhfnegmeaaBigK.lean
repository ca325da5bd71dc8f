/- The document of sha2: One, kind 1. -/
import Derived.Test.YtbjapmhfnegmeaaBigJ
import Derived.Test.YtbjapmhfnegmeaaShaE
namespace Go.Proofs.Ytbjapmhfnegmeaa.Big
set_option linter.unusedVariables false
open Go Go.RowKit
open Sha
/-- The bytes, a mark, zeros, the first bytes of the length. -/
def padS64 (l : List UInt8) (m j : Nat) : List UInt8 := l ++ (128 : UInt8) :: (List.replicate m 0 ++ (bytesOf (8 * l.length) 16).take j)
theorem padS64_zero (l : List UInt8) (m : Nat) : padS64 l (m + 1) 0 = padS64 l m 0 ++ [0] := by simp [padS64, List.replicate_succ']
theorem padS64_step (l : List UInt8) (m j : Nat) (h : j < 16) : padS64 l m (j + 1) = padS64 l m j ++ [UInt8.ofNat (8 * l.length / 256 ^ (16 - 1 - j))] := by
  simp [padS64, bytesOf_step _ _ _ h]
theorem padS64_all (l : List UInt8) : padS64 l (zeros 128 l.length) 16 = l ++ padB 128 l.length := by
  unfold padS64 padB
  rw [List.take_of_length_le (by rw [bytesOf_len]; exact Nat.le_refl _)]
theorem padS64_len (l : List UInt8) (m j : Nat) (h : j ≤ 16) : (padS64 l m j).length = l.length + 1 + m + j := by
  simp [padS64, bytesOf_len]; omega
theorem zeros64 (n : Nat) : (n + 1 + zeros 128 n + 16) % 128 = 0 ∧ ∀ j, j < zeros 128 n → (n + 1 + j + 16) % 128 ≠ 0 := by
  unfold zeros
  exact ⟨by omega, fun j hj => by omega⟩

set_option maxRecDepth 100000 in
set_option maxHeartbeats 8000000 in
theorem one64_any (s : ByteArray) (hs : s.size ≤ 900000) (w : World) :
    Calls Try.prog 8 #[.int .i64 1, .string s] w fun e w' => e = .returned (.tuple #[.string ⟨(k512.sum s.data.toList).toArray⟩, .int .i64 0]) ∧ Below w.heap.size w w' := by
  obtain ⟨R, hR⟩ : ∃ R, R = k512.sum s.data.toList := ⟨_, rfl⟩
  rw [← hR]
  have HR := Box.mk hR; have HS := Box.mk hs
  clear hR hs
  go_enter Try.func8, Try.ntmps8
  go_upto_region 3 with (fail)
  refine wp_region_seq 4 [.flo, .cha, .new (.cells (kc kz) 42), .cha] (by rfl) rfl (by decide) ?_
  simp only [List.take, List.zip, List.zipWith]
  try go_frame
  refine gm_move (.tmp 0) (.inl rfl) (.int .i64 1) rfl ?_
  try go_frame
  refine gm_callF [.int .i64 1] (by kernel_rfl) rfl rfl (fun w1 hw1 _ => (of64_any w1).mono ?_)
  rintro e w2 ⟨vK, vH, rfl, oK, oH, nK, nH, hw2⟩
  obtain ⟨gK, cK, rfl, hgK, hcK, hlK, _⟩ := oK.cells nK
  obtain ⟨gH, cH, rfl, hgH, hcH, hlH, _⟩ := oH.cells nH
  have oK' := oK.base hw1.size; have oH' := oH.base hw1.size
  refine ⟨_, rfl, hw2, KH gK gH 80 K64 H64, [gK, gH], KH.stb _ _ _ _ _, ?_, ?_, ?_⟩
  · exact ⟨fun j hj => hcK j _ (map_at _ _ (by rw [K64_len]; exact hj)), fun j hj => hcH j _ (map_at _ _ (by rw [H64_len]; exact hj)), hlK, hlH⟩
  · intro b hb
    simp at hb
    rcases hb with rfl | rfl
    · exact ⟨hgK, hlK⟩
    · exact ⟨hgH, hlH⟩
  clear hcK hcH hlK hlH oK oH oK' oH' nK nH hw1 hw2 hgK hgH
  try go_frame
  refine gm_alloc rfl (.cells (kc kz) 42) (fun _ => by kernel_rfl) (fun b6 hb6 hn6 => ?_)
  try go_frame
  have n1 : b6 ≠ gK := fun h => hn6 (by simp [h])
  have n2 : b6 ≠ gH := fun h => hn6 (by simp [h])
  refine gm_storeN (.tmp 6) (.tmp 26) rfl b6 (kc kz) (kc ⟨64, sh512, .slice (some ⟨gK, 0, none⟩) 80 cK, .slice (some ⟨gH, 0, none⟩) 8 cH⟩) 42 rfl rfl (by simp) rfl kc_info rfl (kc_one _ rfl rfl) (KH gK gH 80 K64 H64) (fun _ h => h) (KH.stb _ _ _ _ _) (fun _ h => h.setRow n1 n2 _) ?_
  try go_frame
  refine gm_nil ?_
  intro w1 hw1 hF1
  simp only [List.drop]
  try go_frame
  have B1 := Box.mk hw1.below; have HK := Box.mk hF1.1; have R6 := Box.mk hF1.2
  clear hw1 hF1 n1 n2 hb6 hn6
  obtain ⟨SB, hSB⟩ : ∃ SB, SB = w1.heap.size := ⟨_, rfl⟩
  have hrl : s.size = s.data.toList.length := (size_listB s).symm
  obtain ⟨l, hl⟩ : ∃ l, l = s.data.toList := ⟨_, rfl⟩
  obtain ⟨cap, C, fr, hcv, hown⟩ := run_tobytes (P := Try.prog) 9 36 5 s Try.underlying9 Try.underlying36 Try.underlying5 (by have := HS.out; omega) SB w1 (by omega)
  rw [← hl] at hrl hown
  rw [hrl] at hcv hown
  have HSZ := Box.mk hrl; have HLL : Box (l.length ≤ 900000) := ⟨by have := HS.out; omega⟩
  have HOWN := Box.mk hown; have HR : Box (R = k512.sum l) := ⟨by rw [HR.out, hl]⟩
  have hB0 : ∀ D, Below SB w1 ((w1.alloc (.cells C 5 fr)).alloc D).drew := fun D => (((Below.refl _ _).alloc (by omega) _).alloc (by simp; omega) _).drew
  have hsz0 : ∀ D, SB ≤ ((w1.alloc (.cells C 5 fr)).alloc D).drew.heap.size := fun D => by simp; omega
  have hc0 : ∀ (A : Obj) (y : Value), ((w1.alloc A).alloc (.cells #[y] 5)).drew.cell? ⟨w1.heap.size + 1, 0, none⟩ = some y := fun A y => by
    have := heap_alloc_new (w1.alloc A) (.cells #[y] 5)
    rw [World.size_alloc] at this
    exact (cell_of_row (w1.alloc A |>.alloc _) _ 0 _ _ _ this)
  have HB0 := Box.mk hB0; have HSZ0 := Box.mk hsz0; have HC0 := Box.mk hc0; have HSB := Box.mk hSB
  have hl5 : l.length + 1 ≤ 1000000000 := by have := HLL.out; omega
  clear hB0 hsz0 hc0 hown hrl hl hSB HS
  go_wp2_with (at_builtin; refine wpList_app1 (w0 := w1) rfl (.tmp 28) (.tmp 29) 36 rfl SB 5 (.int .u8 0) 1 Try.underlying36 (by kernel_rfl) rfl (.slice (some ⟨w1.heap.size, 0, none⟩) l.length cap) l.length (l.map byv) rfl (HOWN.out.alloc _).drew (HB0.out _) (HSZ0.out _) (w1.heap.size + 1) (.int .u8 128) rfl (HC0.out _ _) rfl hl5 (by omega) ?_)
  intro v1 w2 hown1 hbel1 hsz1 _ hnn1
  have HO1 := Box.mk hown1; have HB1 := Box.mk hbel1; have HNN1 := Box.mk hnn1; have HSZ1 := Box.mk hsz1
  clear hown1 hbel1 hnn1 hsz1 HOWN hcv HC0 HB0 HSZ0 hl5
  obtain ⟨g1, cap1, rfl, _⟩ := HO1.out.cells HNN1.out
  clear HNN1
  obtain ⟨hz1, hz2⟩ := zeros64 l.length
  obtain ⟨Z, hZ⟩ : ∃ Z, Z = zeros 128 l.length := ⟨_, rfl⟩
  rw [← hZ] at hz1 hz2
  have HZ := Box.mk hZ; have HZ1 := Box.mk hz1; have HZ2 := Box.mk hz2; have HZB : Box (Z < 128) := ⟨by rw [hZ]; exact Nat.mod_lt _ (by omega)⟩
  clear hZ hz1 hz2
  go_wp2_with fail
  go_loopw [7] (fun b wr => ∃ m g cap : Nat, m ≤ Z ∧ b = .slice (some ⟨g, 0, none⟩) (l.length + 1 + m) cap ∧ Own wr SB 5 b (l.length + 1 + m) ((padS64 l m 0).map byv) ∧ Below SB w1 wr ∧ SB ≤ wr.heap.size) (fun b _ => match b with | .slice _ n _ => l.length + 1000 - n | _ => 0)
  case atStart => exact ⟨0, g1, cap1, by omega, rfl, by have := HO1.out; simpa [padS64, byv] using this, HB1.out, HSZ1.out⟩
  case round =>
    clear HO1 HB1 HSZ1
    obtain ⟨m, g, cap, hm, rfl, hown, hbel, hsz⟩ := hrel
    have HO := Box.mk hown; have HB := Box.mk hbel; have HSZ2 := Box.mk hsz
    have r6 : wr.heap[b6]? = some (.cells (kc ⟨64, sh512, .slice (some ⟨gK, 0, none⟩) 80 cK, .slice (some ⟨gH, 0, none⟩) 8 cH⟩) 42 (0, 0)) := (hbel.block b6 (by rw [HSB.out]; exact (Array.getElem?_eq_some_iff.1 R6.out).1)).trans R6.out
    have cW : wr.cell? ⟨b6, 0, none⟩ = some (.int .i64 64) := cell_of_row _ _ _ _ _ _ r6
    clear hown hbel hsz r6
    obtain ⟨N, hN⟩ : ∃ N, N = l.length + 1 + m := ⟨_, rfl⟩
    rw [← hN] at HO ⊢
    have hNl : N ≤ 1000000 := by have := HLL.out; have := HZB.out; omega
    obtain ⟨N8, hN8⟩ : ∃ N8, N8 = N + 16 := ⟨_, rfl⟩
    obtain ⟨q, hq⟩ : ∃ q, q = N8 % 128 := ⟨_, rfl⟩
    have m1 : (64 : Int).tdiv 4 = 16 := by decide
    have m2 : IntKind.i64.wrap 16 = 16 := by decide
    have m3 : IntKind.i64.wrap ((N : Int) + 16) = (N8 : Int) := by rw [IntKind.wrap_i64]; omega
    have m4 : IntKind.i64.wrap (2 * 64) = 128 := by decide
    have m5 : (N8 : Int).tmod 128 = (q : Int) := by rw [Int.tmod_eq_emod_of_nonneg (by omega)]; omega
    have m6 : IntKind.i64.wrap (q : Int) = (q : Int) := by rw [IntKind.wrap_i64]; omega
    by_cases hlt : m < Z
    · have hne : q ≠ 0 := by
        have := HZ2.out m hlt
        rw [hq, hN8, hN]; exact this
      have hneB : ((q : Int) != 0) = true := by rw [bne_iff_ne]; omega
      have HN := Box.mk hN
      clear hne hq hN8 hN
      go_wp2_with (at_builtin; refine wpList_app1 (w0 := w1) rfl (.tmp 42) (.tmp 43) 36 rfl SB 5 (.int .u8 0) 1 Try.underlying36 (by kernel_rfl) rfl (.slice (some ⟨g, 0, none⟩) N cap) N ((padS64 l m 0).map byv) rfl (HO.out.alloc _) (HB.out.alloc HSZ2.out _) (by have := HSZ2.out; simp; omega) wr.heap.size (.int .u8 0) rfl (cell_new _ _ _) rfl (by omega) (by omega) ?_)
      intro v2 w3 hown2 hbel2 hsz2 _ hnn2
      obtain ⟨g2, cap2, rfl, _⟩ := hown2.cells hnn2
      have HO3 := Box.mk hown2; have HB3 := Box.mk hbel2; have HSZ3 := Box.mk hsz2
      clear hown2 hbel2 hnn2 hsz2 HO HB
      go_wp2
      refine ⟨⟨m + 1, g2, cap2, by omega, ?_, ?_, HB3.out, HSZ3.out⟩, ?_⟩
      · rw [show l.length + 1 + (m + 1) = N + 1 by have := HN.out; omega]
      · have := HO3.out
        rw [show l.length + 1 + (m + 1) = N + 1 by have := HN.out; omega, padS64_zero, List.map_append]
        exact this
      · have := HN.out
        have := HZB.out
        show l.length + 1000 - (N + 1) < l.length + 1000 - N
        omega
    · obtain rfl : Z = m := by omega
      have hq0 : q = 0 := by have := HZ1.out; omega
      have hneB : ((q : Int) != 0) = false := by rw [hq0]; rfl
      have HN := Box.mk hN
      clear hq hN8 hN hq0 hlt hm
      have m7 : IntKind.i64.wrap (16 - 1) = 15 := by decide
      go_wp2_with fail
      clear m1 m2 m3 m4 m5 m6 m7 hneB cW
      go_loopw [7, 8] (fun b i wr => ∃ j g cap : Nat, j ≤ 16 ∧ i = .int .i64 (15 - (j : Int)) ∧ b = .slice (some ⟨g, 0, none⟩) (N + j) cap ∧ Own wr SB 5 b (N + j) ((padS64 l Z j).map byv) ∧ Below SB w1 wr ∧ SB ≤ wr.heap.size) (fun _ i _ => (intOf i + 1).toNat)
      case atStart => exact ⟨0, g, cap, by omega, rfl, rfl, HO.out, HB.out, HSZ2.out⟩
      case round =>
        clear HO HB HSZ2
        obtain ⟨j, g, cap, hj, rfl, rfl, hown, hbel, hsz⟩ := hrel
        have HO := Box.mk hown; have HB := Box.mk hbel; have HSZ2 := Box.mk hsz
        clear hown hbel hsz
        by_cases hlt : j < 16
        · obtain ⟨c, hc⟩ : ∃ c : Nat, c = 15 - j := ⟨_, rfl⟩
          have hcI : (15 : Int) - (j : Int) = (c : Int) := by omega
          rw [hcI]
          have HC := Box.mk hc
          have HST := Box.mk (padS64_step l Z j hlt)
          obtain ⟨M, hM⟩ : ∃ M, M = N + j := ⟨_, rfl⟩
          have hM5 : M + 1 ≤ 1000000000 := by omega
          rw [← hM] at HO ⊢
          have HM := Box.mk hM
          obtain ⟨L8, hL8⟩ : ∃ L8, L8 = 8 * l.length := ⟨_, rfl⟩
          have hLI : (s.size : Int) = (l.length : Int) := by rw [HSZ.out]
          have hL1 : IntKind.u64.wrap (l.length : Int) = (l.length : Int) := by rw [IntKind.wrap_u64]; have := HLL.out; omega
          have hL2 : IntKind.u64.wrap ((l.length : Int) * 8) = (L8 : Int) := by rw [IntKind.wrap_u64]; have := HLL.out; omega
          have HY := Box.mk (show Value.int .u8 ((L8 : Int) / 2 ^ (8 * c) % 256) = byv (UInt8.ofNat (8 * l.length / 256 ^ (16 - 1 - j))) from by
            rw [shift_byte L8 (8 * c) (16 - 1 - j) (by omega), hL8])
          have HL8 := Box.mk hL8
          have HLB : Box (L8 ≤ 7200000) := ⟨by have := HLL.out; omega⟩
          clear hcI hL8 hM hc
          by_cases hc8 : c < 8
          · have hcI : (c : Int) < 8 := by omega
            obtain ⟨t, ht⟩ : ∃ t, t = 8 * c := ⟨_, rfl⟩
            have htw : IntKind.i64.wrap (8 * (c : Int)) = (t : Int) := by rw [IntKind.wrap_i64]; omega
            have htm : min t 64 = t := by omega
            rw [← ht] at HY
            obtain ⟨y, hy⟩ : ∃ y, y = L8 / 2 ^ t := ⟨_, rfl⟩
            have htI : (L8 : Int) / 2 ^ min t 64 = (y : Int) := by rw [htm, hy]; simp
            have HY2 : Box (Value.int .u8 ((y : Int) % 256) = byv (UInt8.ofNat (8 * l.length / 256 ^ (16 - 1 - j)))) := ⟨by rw [← HY.out, hy]; simp⟩
            clear ht htm HY hc8 hy
            go_wp2_with (at_builtin; refine wpList_app1 (w0 := w1) rfl (.tmp 62) (.tmp 65) 36 rfl SB 5 (.int .u8 0) 1 Try.underlying36 (by kernel_rfl) rfl (.slice (some ⟨g, 0, none⟩) M cap) M ((padS64 l Z j).map byv) rfl (HO.out.alloc _) (HB.out.alloc HSZ2.out _) (by have := HSZ2.out; simp; omega) wr.heap.size (.int .u8 ((y : Int) % 256)) rfl (cell_new _ _ _) rfl hM5 (by omega) ?_)
            intro v2 w3 hown2 hbel2 hsz2 _ hnn2
            obtain ⟨g2, cap2, rfl, _⟩ := hown2.cells hnn2
            have HO3 := Box.mk hown2; have HB3 := Box.mk hbel2; have HSZ3 := Box.mk hsz2
            clear hown2 hbel2 hnn2 hsz2 HO HB
            go_wp2
            refine ⟨⟨j + 1, g2, cap2, by omega, int_congr (by have := HC.out; omega), ?_, ?_, HB3.out, HSZ3.out⟩, by have := HC.out; simp [intOf]⟩
            · rw [show N + (j + 1) = M + 1 by have := HM.out; omega]
            · have := HO3.out
              rw [show N + (j + 1) = M + 1 by have := HM.out; omega, HST.out, List.map_append]
              rw [HY2.out] at this
              exact this
          · have hcI : ¬ (c : Int) < 8 := by omega
            have hcU : (c : Int) < 16 := by have := HC.out; omega
            have hwc : IntKind.i64.wrap ((c : Int) - 1) = (c : Int) - 1 := by rw [IntKind.wrap_i64]; omega
            have hwc2 : wrap64 ((c : Int) - 1) = (c : Int) - 1 := by unfold wrap64; omega
            have HY2 : Box (Value.int .u8 0 = byv (UInt8.ofNat (8 * l.length / 256 ^ (16 - 1 - j)))) := ⟨by
              rw [show 8 * l.length / 256 ^ (16 - 1 - j) = 0 from Nat.div_eq_of_lt (by
                have h1 := HLB.out
                have h2 : 256 ^ 8 ≤ 256 ^ (16 - 1 - j) := Nat.pow_le_pow_right (by omega) (by have := HC.out; omega)
                have h3 := HL8.out
                omega)]; rfl⟩
            clear HY hc8
            go_wp2_with (at_builtin; refine wpList_app1 (w0 := w1) rfl (.tmp 62) (.tmp 65) 36 rfl SB 5 (.int .u8 0) 1 Try.underlying36 (by kernel_rfl) rfl (.slice (some ⟨g, 0, none⟩) M cap) M ((padS64 l Z j).map byv) rfl (HO.out.alloc _) (HB.out.alloc HSZ2.out _) (by have := HSZ2.out; simp; omega) wr.heap.size (.int .u8 0) rfl (cell_new _ _ _) rfl hM5 (by omega) ?_)
            intro v2 w3 hown2 hbel2 hsz2 _ hnn2
            obtain ⟨g2, cap2, rfl, _⟩ := hown2.cells hnn2
            have HO3 := Box.mk hown2; have HB3 := Box.mk hbel2; have HSZ3 := Box.mk hsz2
            clear hown2 hbel2 hnn2 hsz2 HO HB
            go_wp2
            refine ⟨⟨j + 1, g2, cap2, by omega, int_congr (by have := HC.out; omega), ?_, ?_, HB3.out, HSZ3.out⟩, by have := HC.out; simp [intOf]⟩
            · rw [show N + (j + 1) = M + 1 by have := HM.out; omega]
            · have := HO3.out
              rw [show N + (j + 1) = M + 1 by have := HM.out; omega, HST.out, List.map_append]
              rw [HY2.out] at this
              exact this
        · obtain rfl : j = 16 := by omega
          have hlen := HO.out.1
          rw [HZ.out, padS64_all] at HO hlen
          rw [List.length_map] at hlen
          obtain ⟨Lb, hLb⟩ : ∃ Lb, Lb = l ++ padB 128 l.length := ⟨_, rfl⟩
          rw [← hLb] at HO hlen
          have HLb := Box.mk hLb
          obtain ⟨C, hC⟩ : ∃ C, N + 16 = 128 * C := ⟨(N + 16) / 128, by have := HN.out; have := HZ1.out; omega⟩
          have hC5 : 128 * C ≤ 1000000 := by rw [← hC]; omega
          rw [hC] at HO hlen ⊢
          obtain ⟨w3, rfl⟩ : ∃ w3 : World, w3 = wr := ⟨_, rfl⟩
          have HK3 := Box.mk (HK.out.below (HB.out.mono (by rw [HSB.out]; exact Nat.le_refl _)))
          have R63 := Box.mk ((HB.out.block b6 (by rw [HSB.out]; exact (Array.getElem?_eq_some_iff.1 R6.out).1)).trans R6.out)
          have OB := Box.mk HO.out
          have B3 := Box.mk (B1.out.trans (HB.out.mono (by rw [HSB.out]; exact B1.out.size)))
          have HLEN := Box.mk hlen
          have HRR : Box (R = (run 128 k512.step C k512.h Lb).1.list.flatMap fun x => bytesOf x 8) := ⟨by
            rw [HR.out]
            show ((blks 128 k512.step k512.h (l ++ padB 128 l.length)).1.list.flatMap fun x => bytesOf x 8) = _
            unfold blks
            rw [← HLb.out, HLEN.out, Nat.mul_div_cancel_left _ (by decide)]⟩
          clear hlt hj HN hC hlen hLb HLb HO HB HSZ2 HZ HZ1 HZ2 HZB HR HK R6 B1 HSB hNl HLL HSZ
          have cH : w3.cell? ⟨b6, 14, none⟩ = some (.slice (some ⟨gH, 0, none⟩) 8 cH) := cell_of_row _ _ _ _ _ _ R63.out
          have SUM0 : Box (∀ q, q < 8 → w3.cell? ⟨gH, q, none⟩ = some (.int .u64 ((run 128 k512.step 0 k512.h Lb).1.list.getD q 0 : Nat))) := ⟨fun q hq => by rw [HK3.out.cH q hq, H64_eq]; rfl⟩
          have LH0 : Box (gH < w3.heap.size) := ⟨HK3.out.lH⟩
          have OK0 : Box ((run 128 k512.step 0 k512.h Lb).1.Ok 64) := ⟨h64_ok⟩
          obtain ⟨gb, capb, hge, _, hbc, hbl, _⟩ := OB.out.cells (by simp)
          injection hge with h1 h2 h3
          injection h1 with h1
          injection h1 with h1
          subst h1
          have HBC : Box (∀ q, q < 128 * C → w3.cell? ⟨g, q, none⟩ = some (.int .u8 ((Lb.getD q 0).toNat : Nat))) := ⟨fun q hq => hbc q _ (byv_at _ _ (by have := HLEN.out; omega))⟩
          have HBL := Box.mk hbl
          clear hbc hbl h2 h3 OB
          go_wp2_with fail
          clear cH
          go_loopw [10, 11] (fun u i wr => ∃ c gs cs : Nat, c ≤ C ∧ i = .int .i64 (128 * (c : Int)) ∧ u = .slice (some ⟨gs, 0, none⟩) 8 cs ∧ gs < wr.heap.size ∧ (∀ q, q < 8 → wr.cell? ⟨gs, q, none⟩ = some (.int .u64 ((run 128 k512.step c k512.h Lb).1.list.getD q 0 : Nat))) ∧ (run 128 k512.step c k512.h Lb).1.Ok 64 ∧ Below w3.heap.size w3 wr) (fun _ i _ => 128 * C - (intOf i).toNat)
          case atStart => exact ⟨0, gH, _, by omega, rfl, rfl, LH0.out, SUM0.out, OK0.out, Below.refl _ _⟩
          case round =>
            clear SUM0 LH0 OK0
            obtain ⟨wo, rfl⟩ : ∃ wo : World, wo = wr := ⟨_, rfl⟩
            obtain ⟨c, gs, cs, hc, rfl, rfl, hgl, hsum, hok, hbel⟩ := hrel
            have HGL := Box.mk hgl; have HSUM := Box.mk hsum; have HOK := Box.mk hok; have HB := Box.mk hbel
            clear hgl hsum hok hbel
            have HKo := Box.mk (HK3.out.below HB.out)
            have R6o := Box.mk ((Gr.of HB.out).block R63.out)
            by_cases hlt : c < C
            · have hltI : 128 * (c : Int) < 128 * (C : Int) := by omega
              obtain ⟨SD, hSD⟩ : ∃ SD, SD = wo.heap.size := ⟨_, rfl⟩
              have o0 : Box (Own (wo.alloc (.cells #[] 44)) SD 44 (.slice (some ⟨wo.heap.size, 0, none⟩) 0 0) 0 ((wordsOf 8 0 (Lb.drop (128 * c))).map u64v)) := ⟨Own.made wo 44 #[] 0 SD (by omega) (by unfold maxLen; omega) rfl⟩
              have b0 : Box (Below SD wo (wo.alloc (.cells #[] 44))) := ⟨(Below.refl _ _).alloc (by omega) _⟩
              have s0 : Box (SD ≤ (wo.alloc (.cells #[] 44)).heap.size) := ⟨by simp; omega⟩
              have HSD := Box.mk hSD
              clear hSD
              go_wp2_with fail
              go_loopw [12, 13] (fun v i wr => ∃ t : Nat, t ≤ 16 ∧ i = .int .i64 t ∧ Own wr SD 44 v t ((wordsOf 8 t (Lb.drop (128 * c))).map u64v) ∧ v ≠ .slice none 0 0 ∧ Below SD wo wr ∧ SD ≤ wr.heap.size) (fun _ i _ => 16 - (intOf i).toNat)
              case atStart => exact ⟨0, by omega, rfl, o0.out, by simp, b0.out, s0.out⟩
              case round =>
                clear o0 b0 s0
                obtain ⟨wx, rfl⟩ : ∃ wx : World, wx = wr := ⟨_, rfl⟩
                obtain ⟨t, ht, rfl, hown, hne, hbel, hsz⟩ := hrel
                have OW := Box.mk hown; have NE := Box.mk hne; have HBx := Box.mk hbel; have HSx := Box.mk hsz
                clear hown hne hbel hsz
                have R6x := Box.mk ((HBx.out.block b6 (by rw [HSD.out]; exact (Array.getElem?_eq_some_iff.1 R6o.out).1)).trans R6o.out)
                by_cases htl : t < 16
                · obtain ⟨gw, cw, hve, _⟩ := OW.out.cells NE.out
                  subst hve
                  have htI : (t : Int) < 16 := by omega
                  have cW : wx.cell? ⟨b6, 0, none⟩ = some (.int .i64 64) := cell_of_row _ _ _ _ _ _ R6x.out
                  have HBx3 : Box (Below w3.heap.size w3 wx) := ⟨HB.out.trans (HBx.out.mono (by rw [HSD.out]; exact HB.out.size))⟩
                  obtain ⟨q, hq⟩ : ∃ q, q = 128 * c + 8 * t := ⟨_, rfl⟩
                  have HQL : Box (q + 8 ≤ 128 * C) := ⟨by omega⟩
                  have hqI : 128 * (c : Int) + 8 * (t : Int) = (q : Int) := by omega
                  have m1 : (64 : Int).tdiv 8 = 8 := by decide
                  have m2 : IntKind.i64.wrap 8 = 8 := by decide
                  have m3 : IntKind.i64.wrap ((t : Int) * 64) = (t : Int) * 64 := by rw [IntKind.wrap_i64]; omega
                  have m4 : ((t : Int) * 64).tdiv 8 = 8 * (t : Int) := by rw [Int.tdiv_eq_ediv_of_nonneg (by omega)]; omega
                  have m5 : IntKind.i64.wrap (8 * (t : Int)) = 8 * (t : Int) := by rw [IntKind.wrap_i64]; omega
                  have m6 : IntKind.i64.wrap (128 * (c : Int) + 8 * (t : Int)) = (q : Int) := by rw [IntKind.wrap_i64]; omega
                  have HWS := Box.mk (wordsOf_snoc 8 t (Lb.drop (128 * c)))
                  rw [List.drop_drop, ← hq] at HWS
                  clear hq
                  go_wp2_with fail
                  go_loop [14, 15] (fun x i => ∃ j : Nat, j ≤ 8 ∧ i = .int .i64 j ∧ x = .int .u64 (be ((Lb.drop q).take j) : Nat)) (fun _ i => 8 - (intOf i).toNat)
                  case atStart => exact ⟨0, by omega, rfl, by simp [be]⟩
                  case round =>
                    obtain ⟨j, hj, rfl, rfl⟩ := hrel
                    by_cases hjl : j < 8
                    · have hjI : (j : Int) < 8 := by omega
                      obtain ⟨p, hp⟩ : ∃ p, p = q + j := ⟨_, rfl⟩
                      have hst := be_stepL Lb q j (by have := HLEN.out; have := HQL.out; omega)
                      rw [← hp] at hst
                      have hbl : be ((Lb.drop q).take j) * 256 < 18446744073709551616 := by
                        have h1 := be_lt ((Lb.drop q).take j)
                        have h2 : ((Lb.drop q).take j).length ≤ 7 := by rw [List.length_take]; omega
                        have h3 : 256 ^ ((Lb.drop q).take j).length ≤ 256 ^ 7 := Nat.pow_le_pow_right (by omega) h2
                        omega
                      have hpB : p < 128 * C := by have := HQL.out; omega
                      have hpI : (p : Int) < 128 * (C : Int) := by omega
                      have hcc : wx.cell? ⟨g, p, none⟩ = some (.int .u8 ((Lb.getD p 0).toNat : Nat)) := (HBx3.out.cell (p := ⟨g, p, none⟩) HBL.out).trans (HBC.out p hpB)
                      have hb256 := (Lb.getD p 0).toNat_lt
                      generalize (Lb.getD p 0).toNat = b at hst hcc hb256
                      generalize be ((Lb.drop q).take j) = x at hst hbl
                      obtain ⟨y, hy⟩ : ∃ y, y = x * 256 := ⟨_, rfl⟩
                      have hw1 : IntKind.u64.wrap ((x : Int) * 256) = (y : Int) := by rw [IntKind.wrap_u64]; omega
                      have hw2 : IntKind.u64.wrap (b : Int) = (b : Int) := by rw [IntKind.wrap_u64]; omega
                      obtain ⟨z, hz⟩ : ∃ z, z = y + b := ⟨_, rfl⟩
                      have hw3 : IntKind.u64.wrap ((y : Int) + (b : Int)) = (z : Int) := by rw [IntKind.wrap_u64]; omega
                      have m7 : IntKind.i64.wrap ((q : Int) + (j : Int)) = (p : Int) := by rw [IntKind.wrap_i64]; omega
                      have HST : Box (be ((Lb.drop q).take (j + 1)) = z) := ⟨by rw [hst, hz, hy]; omega⟩
                      clear hst hbl hb256 hy hz hp hpB
                      go_wp2_with fail
                      exact ⟨⟨j + 1, by omega, by go_num, by rw [HST.out]⟩, by simp [intOf]; omega⟩
                    · obtain rfl : j = 8 := by omega
                      generalize be ((Lb.drop q).take 8) = x at HWS
                      go_wp2_with (at_builtin; refine wpList_app1 (w0 := wo) rfl (.tmp 106) (.tmp 108) 40 rfl SD 44 (.int .u64 0) 8 Try.underlying40 (by kernel_rfl) rfl (.slice (some ⟨gw, 0, none⟩) t cw) t ((wordsOf 8 t (Lb.drop (128 * c))).map u64v) rfl (OW.out.alloc _) (HBx.out.alloc HSx.out _) (by have := HSx.out; simp; omega) wx.heap.size (.int .u64 (x : Nat)) rfl (cell_new _ _ _) rfl (by omega) (by omega) ?_)
                      intro v2 w4 hown2 hbel2 hsz2 _ hnn2
                      have HO3 := Box.mk hown2; have HB4 := Box.mk hbel2; have HSZ3 := Box.mk hsz2; have NN := Box.mk hnn2
                      clear hown2 hbel2 hnn2 hsz2
                      go_wp2_with fail
                      exact ⟨⟨t + 1, by omega, by go_num, by rw [HWS.out, List.map_append]; exact HO3.out, NN.out, HB4.out, HSZ3.out⟩, by simp [intOf]; omega⟩
                · obtain rfl : t = 16 := by omega
                  have HSTEP : Box ((run 128 k512.step (c + 1) k512.h Lb).1 = blk 64 sh512 K64 (run 128 k512.step c k512.h Lb).1 (wordsOf 8 16 (Lb.drop (128 * c)))) := ⟨by rw [run_succ, step64_eq]⟩
                  have hblk := block_any ⟨64, sh512, .slice (some ⟨gK, 0, none⟩) 80 cK, .slice (some ⟨gH, 0, none⟩) 8 cH⟩ (.inr rfl) sh512_ok K64 K64_lt 80 K64_len (by omega) (by omega) gK cK rfl (run 128 k512.step c k512.h Lb).1 HOK.out gs cs (wordsOf 8 16 (Lb.drop (128 * c))) (wordsOf_len _ _ _) (fun x hx => wordsOf_lt 8 16 _ x hx) _ SD wx HSx.out
                    (by rw [HSD.out]; exact HKo.out.lK) (by rw [HSD.out]; exact HGL.out) (fun j hj => (HBx.out.cell (p := ⟨gK, j, none⟩) (by rw [HSD.out]; exact HKo.out.lK)).trans (HKo.out.cK j hj)) (fun j hj => (HBx.out.cell (p := ⟨gs, j, none⟩) (by rw [HSD.out]; exact HGL.out)).trans (HSUM.out j hj)) OW.out NE.out
                  have HBLK := Box.mk hblk
                  clear hblk htl
                  go_wp2_with ((with_reducible refine wpList_loadK rfl (.tmp 6) rfl b6 ⟨64, sh512, .slice (some ⟨gK, 0, none⟩) 80 cK, .slice (some ⟨gH, 0, none⟩) 8 cH⟩ R6x.out ?_ ?_); rfl)
                  refine HBLK.out.mono ?_
                  rintro e w5 ⟨g', rfl, _, hg', hcells, hb5⟩
                  have G5 := Box.mk hg'; have C5 := Box.mk hcells
                  have B5 : Box (Below w3.heap.size w3 w5) := ⟨HB.out.trans ((HBx.out.trans hb5).mono (by rw [HSD.out]; exact HB.out.size))⟩
                  clear hg' hcells hb5 HBLK
                  have hwB : IntKind.i64.wrap (2 * 64) = 128 := by decide
                  have hwi : IntKind.i64.wrap (128 * (c : Int) + 128) = 128 * (c : Int) + 128 := by rw [IntKind.wrap_i64]; omega
                  have cW : w5.cell? ⟨b6, 0, none⟩ = some (.int .i64 64) := cell_of_row _ _ _ _ _ _ ((Gr.of B5.out).block R63.out)
                  go_wp2_with fail
                  refine ⟨⟨c + 1, g', 8, by omega, int_congr (by omega), rfl, G5.out, by rw [HSTEP.out]; exact C5.out, by rw [HSTEP.out]; exact plus_ok _ _ _, B5.out⟩, by simp [intOf]; omega⟩
            · obtain rfl : c = C := by omega
              obtain ⟨Lq, hLq⟩ : ∃ L, L = (run 128 k512.step c k512.h Lb).1.list := ⟨_, rfl⟩
              have hLl : Lq.length = 8 := by rw [hLq]; rfl
              rw [← hLq] at HSUM HRR
              have HLl := Box.mk hLl
              have cW : wo.cell? ⟨b6, 0, none⟩ = some (.int .i64 64) := cell_of_row _ _ _ _ _ _ R6o.out
              obtain ⟨SE, hSE⟩ : ∃ SD, SD = wo.heap.size := ⟨_, rfl⟩
              have o0 : Box (Own (wo.alloc (.cells #[] 5)) SE 5 (.slice (some ⟨wo.heap.size, 0, none⟩) 0 0) (8 * 0) (((Lq.take 0).flatMap fun x => bytesOf x 8).map byv)) := ⟨by simpa using Own.made wo 5 #[] 0 SE (by omega) (by unfold maxLen; omega) rfl⟩
              have b0 : Box (Below SE wo (wo.alloc (.cells #[] 5))) := ⟨(Below.refl _ _).alloc (by omega) _⟩
              have s0 : Box (SE ≤ (wo.alloc (.cells #[] 5)).heap.size) := ⟨by simp; omega⟩
              have HSE := Box.mk hSE
              clear hSE hLl hLq hlt hc HOK
              go_wp2_with fail
              go_loopw [16, 17] (fun b i wr => ∃ n : Nat, n ≤ 8 ∧ i = .int .i64 n ∧ Own wr SE 5 b (8 * n) (((Lq.take n).flatMap fun x => bytesOf x 8).map byv) ∧ b ≠ .slice none 0 0 ∧ Below SE wo wr ∧ SE ≤ wr.heap.size) (fun _ i _ => 8 - (intOf i).toNat)
              case atStart => exact ⟨0, by omega, rfl, o0.out, by simp, b0.out, s0.out⟩
              case round =>
                clear o0 b0 s0 cW
                obtain ⟨n, hn, rfl, hown, hnn, hbel, hsz⟩ := hrel
                by_cases hlt : n < 8
                · have hnI : (n : Int) < 8 := by omega
                  have HSN := Box.mk (take_snoc' Lq n (by have := HLl.out; omega))
                  have HXC := Box.mk (HSUM.out n hlt)
                  generalize Lq.getD n 0 = x at HSN HXC
                  have HB2 := Box.mk hbel; have HOWN := Box.mk hown; have HNN := Box.mk hnn; have HSZ2 := Box.mk hsz
                  have cW : wr.cell? ⟨b6, 0, none⟩ = some (.int .i64 64) := cell_of_row _ _ _ _ _ _ ((hbel.block b6 (by rw [HSE.out]; exact (Array.getElem?_eq_some_iff.1 R6o.out).1)).trans R6o.out)
                  have m1 : IntKind.i64.wrap (64 - 8) = 56 := by decide
                  clear hbel hown hnn hsz
                  go_wp2_with fail
                  clear cW m1
                  go_loopw [16, 18] (fun b k wr => ∃ j : Nat, j ≤ 8 ∧ k = .int .i64 (56 - 8 * (j : Int)) ∧ Own wr SE 5 b (8 * n + j) ((((Lq.take n).flatMap fun x => bytesOf x 8) ++ (bytesOf x 8).take j).map byv) ∧ b ≠ .slice none 0 0 ∧ Below SE wo wr ∧ SE ≤ wr.heap.size) (fun _ k _ => (intOf k + 8).toNat)
                  case atStart => exact ⟨0, by omega, rfl, by simpa using HOWN.out, HNN.out, HB2.out, HSZ2.out⟩
                  case round =>
                    clear HOWN HB2 HNN HSZ2
                    obtain ⟨j, hj, rfl, hown, hnn, hbel, hsz⟩ := hrel
                    by_cases hjl : j < 8
                    · obtain ⟨gw, cw, rfl, _⟩ := hown.cells hnn
                      obtain ⟨c2, hc2⟩ : ∃ c2 : Nat, c2 = 56 - 8 * j := ⟨_, rfl⟩
                      have hcI : 56 - 8 * (j : Int) = (c2 : Int) := by omega
                      rw [hcI]
                      have hc0 : (0 : Int) ≤ (c2 : Int) := by omega
                      have hcU : (c2 : Int) < 64 := by omega
                      have HC2 := Box.mk hc2
                      have HY := Box.mk (shift_byte x c2 (8 - 1 - j) (by omega))
                      have HST := Box.mk (bytesOf_step x 8 j hjl)
                      have htm : min c2 64 = c2 := by omega
                      obtain ⟨y, hy⟩ : ∃ y, y = x / 2 ^ c2 := ⟨_, rfl⟩
                      have htI : (x : Int) / 2 ^ min c2 64 = (y : Int) := by rw [htm, hy]; simp
                      have htI2 : (x : Int) / 2 ^ c2 = (y : Int) := by rw [hy]; simp
                      have HY2 : Box (Value.int .u8 ((y : Int) % 256) = byv (UInt8.ofNat (x / 256 ^ (8 - 1 - j)))) := ⟨by rw [← HY.out, hy]; simp⟩
                      have hxc : wr.cell? ⟨gs, n, none⟩ = some (.int .u64 (x : Nat)) := (hbel.cell (p := ⟨gs, n, none⟩) (by rw [HSE.out]; exact HGL.out)).trans HXC.out
                      have HOWN := Box.mk hown; have HB2 := Box.mk hbel; have HSZ2 := Box.mk hsz
                      obtain ⟨M, hM⟩ : ∃ M, M = 8 * n + j := ⟨_, rfl⟩
                      rw [← hM] at HOWN ⊢
                      have hM5 : M + 1 ≤ 1000000000 := by omega
                      have HM := Box.mk hM
                      have hcw1 : IntKind.i64.wrap ((c2 : Int) - 8) = (c2 : Int) - 8 := by rw [IntKind.wrap_i64]; omega
                      clear hown hnn hbel hsz hy htm HY hM hc2 hcI
                      go_wp2_with (at_builtin; refine wpList_app1 (w0 := wo) rfl (.tmp 126) (.tmp 134) 36 rfl SE 5 (.int .u8 0) 1 Try.underlying36 (by kernel_rfl) rfl (.slice (some ⟨gw, 0, none⟩) M cw) M ((((Lq.take n).flatMap fun x => bytesOf x 8) ++ (bytesOf x 8).take j).map byv) rfl (HOWN.out.alloc _) (HB2.out.alloc HSZ2.out _) (by have := HSZ2.out; simp; omega) wr.heap.size (.int .u8 ((y : Int) % 256)) rfl (cell_new _ _ _) rfl hM5 (by omega) ?_)
                      intro v2 w4 hown2 hbel2 hsz2 _ hnn2
                      have HO3 := Box.mk hown2; have HB4 := Box.mk hbel2; have HSZ3 := Box.mk hsz2; have NN := Box.mk hnn2
                      clear hown2 hbel2 hnn2 hsz2
                      go_wp2_with fail
                      refine ⟨⟨j + 1, by omega, int_congr (by have := HC2.out; omega), ?_, NN.out, HB4.out, HSZ3.out⟩, by have := HC2.out; simp [intOf]; omega⟩
                      have := HO3.out
                      rw [HY2.out] at this
                      rw [show 8 * n + (j + 1) = M + 1 by have := HM.out; omega, HST.out]
                      simpa [List.map_append, List.map_take] using this
                    · obtain rfl : j = 8 := by omega
                      rw [(List.take_of_length_le (by rw [bytesOf_len]; exact Nat.le_refl _) : (bytesOf x 8).take 8 = bytesOf x 8)] at hown
                      have HOWN := Box.mk hown; have HB2 := Box.mk hbel; have HNN := Box.mk hnn; have HSZ2 := Box.mk hsz
                      clear hown hbel hnn hsz
                      go_wp2_with fail
                      exact ⟨⟨n + 1, by omega, by go_num, by rw [HSN.out, List.flatMap_append, Nat.mul_add, Nat.mul_one]; simpa using HOWN.out, HNN.out, HB2.out, HSZ2.out⟩, by simp [intOf]; omega⟩
                · obtain rfl : n = 8 := by omega
                  rw [List.take_of_length_le (by have := HLl.out; omega), ← HRR.out] at hown
                  have hcv := run_str_Own (P := Try.prog) (dst := 9) hown hnn Try.underlying36 Try.underlying5 Try.underlying9
                  have HBF : Box (Below w.heap.size w wr) := ⟨(B3.out.trans (HB.out.mono B3.out.size)).trans (hbel.mono (by rw [HSE.out]; exact Nat.le_trans B3.out.size HB.out.size))⟩
                  clear hown hnn hbel hsz hlt hn
                  go_wp2_with fail
                  go_ret2
                  exact ⟨rfl, HBF.out⟩
end Go.Proofs.Ytbjapmhfnegmeaa.Big
