/- SHA-2: blocks of words of 32 bits. -/
import Derived.Test.YtbjapmhfnegmeaaShaC
import Derived.Test.YtbjapmhfnegmeaaShaF
import Derived.Deep.RegionWith
namespace Go.Proofs.Ytbjapmhfnegmeaa
set_option linter.unusedVariables false
open Go Go.RowKit Sha

theorem Sha.run_one (B : Nat) (f : V8 → List UInt8 → V8) (m : Nat) (v : V8) (l : List UInt8) : run B f (m + 1) v l = (f (run B f m v l).1 ((run B f m v l).2.take B), (run B f m v l).2.drop B) := by
  rw [run_add]; rfl
theorem Sha.run_blks {B : Nat} (hB : 0 < B) (f : V8 → List UInt8 → V8) (m : Nat) (v : V8) (l : List UInt8) (h : m * B ≤ l.length) (h2 : (run B f m v l).2.length < B) : run B f m v l = blks B f v l := by
  rw [run_len _ _ _ _ _ h] at h2
  have : l.length / B = m := by
    rw [Nat.div_eq_iff hB]; omega
  unfold blks; rw [this]
theorem extract_take (s : ByteArray) (k : Nat) : (s.extract 0 k).data.toList = s.data.toList.take k := by simp [ByteArray.data_extract]
theorem extract_drop (s : ByteArray) (k n : Nat) (h : n = s.size) : (s.extract k n).data.toList = s.data.toList.drop k := by
  subst h
  simp only [ByteArray.data_extract, Array.toList_extract, List.extract_eq_take_drop]
  exact List.take_of_length_le (by simp)
theorem size_list (s : ByteArray) : s.data.toList.length = s.size := by simp
theorem plus_ok (W : Nat) (v u : V8) : (plus W v u).Ok W :=
  ⟨Nat.mod_lt _ (Nat.two_pow_pos _), Nat.mod_lt _ (Nat.two_pow_pos _), Nat.mod_lt _ (Nat.two_pow_pos _), Nat.mod_lt _ (Nat.two_pow_pos _), Nat.mod_lt _ (Nat.two_pow_pos _), Nat.mod_lt _ (Nat.two_pow_pos _), Nat.mod_lt _ (Nat.two_pow_pos _), Nat.mod_lt _ (Nat.two_pow_pos _)⟩
theorem kcell (j x : Nat) (w : World) (g : Nat) (h : w.heap[g]? = some (.cells kcells 63 (0, 0))) (n : Nat) (hj : (K.take n)[j]? = some x) : w.cell? ⟨g, j, none⟩ = some (u64v x) := by
  rw [cell_of_row _ _ _ _ _ _ h]
  unfold kcells
  rw [List.getElem?_toArray, List.getElem?_map]
  have : K[j]? = some x := by rw [List.getElem?_take] at hj; split at hj <;> simp_all
  rw [this]; rfl
theorem K_lt : ∀ x ∈ K, x < 2 ^ 64 := by decide

theorem ks256 : (K.take 64).map (· / 2 ^ 32) = k256.ks := by rfl
theorem ks256_len : (K.take 64).length = 64 := by decide
theorem blockK32 (p gk g cap : Nat) (v O : V8) (rest : ByteArray) (size : Int) (l : List UInt8) (w : World) (h : Hs32 w p v O rest size) (hv : v.Ok 32)
    (hin : ∀ j x, (wordsOf 4 16 l)[j]? = some x → w.cell? ⟨g, j, none⟩ = some (u32v x)) (hkc : w.heap[gk]? = some (.cells kcells 63 (0, 0))) :
    Calls Try.prog 29 #[.pointer (some ⟨p, 1, none⟩), .slice (some ⟨g, 0, none⟩) 16 cap, .slice (some ⟨gk, 0, none⟩) 64 80, .agg (shl sh256), .int .i64 32] w fun e w' => e = .returned (.tuple #[]) ∧
      Hs32 w' p (k256.step v l) O rest size ∧ (k256.step v l).Ok 32 ∧ Upd [p] w w' := by
  have b := block32_any p g gk 80 cap 0 v O rest size (K.take 64) (wordsOf 4 16 l) sh256 w hv sh256_ok (wordsOf_len _ _ _) (by rw [ks256_len]; omega) (wordsOf_lt 4 16 l) (fun x hx => K_lt x (List.mem_of_mem_take hx)) h hin (fun j x hj => kcell j x w gk hkc 64 hj)
  rw [ks256_len, ks256] at b
  exact b.mono fun e w' ⟨he, hs, hu⟩ => ⟨he, hs, plus_ok _ _ _, hu⟩

theorem blockZ32 (p gk g cap : Nat) (v O : V8) (rest : ByteArray) (size : Int) (l : List UInt8) (w w1 : World) (h : Hs32 w p v O rest size) (hv : v.Ok 32) (hkc : w.heap[gk]? = some (.cells kcells 63 (0, 0)))
    (hb : Below w.heap.size w w1) (hin : ∀ j x, (wordsOf 4 16 l)[j]? = some x → w1.cell? ⟨g, j, none⟩ = some (u32v x)) :
    Calls Try.prog 29 #[.pointer (some ⟨p, 1, none⟩), .slice (some ⟨g, 0, none⟩) 16 cap, .slice (some ⟨gk, 0, none⟩) 64 80, .agg (shl sh256), .int .i64 32] (w1.alloc (.cells (shl sh256) 70)) fun e w' => e = .returned (.tuple #[]) ∧
      Hs32 w' p (k256.step v l) O rest size ∧ (k256.step v l).Ok 32 ∧ Upd [p] w w' := by
  have hz := hb.size
  have l1 := (Array.getElem?_eq_some_iff.1 h).1
  have l2 := (Array.getElem?_eq_some_iff.1 hkc).1
  refine (blockK32 p gk g cap v O rest size l _ ?_ hv ?_ ?_).mono fun e w' ⟨he, hs, hok, hu⟩ => ⟨he, hs, hok, ((Upd.of_below hb).alloc _).trans hu⟩
  · unfold Hs32; rw [heap_alloc_old _ _ (by omega), hb.block p l1]; exact h
  · intro j x hj
    have := hin j x hj
    rw [World.cell?_of_block (w := w1) (a := ⟨g, j, none⟩) (heap_alloc_old _ _ (World.block_lt_of_cell? _ _ this))]; exact this
  · rw [heap_alloc_old _ _ (by omega), hb.block gk l2]; exact hkc
set_option maxRecDepth 100000 in
set_option maxHeartbeats 4000000 in
theorem blocks32_any (p : Nat) (v O : V8) (rest : ByteArray) (size : Int) (s : ByteArray) (w : World) (h : Hs32 w p v O rest size) (hv : v.Ok 32) (hsz : s.size ≤ 1000000) :
    Calls Try.prog 18 #[.pointer (some ⟨p, 0, none⟩), .string s] w fun e w' => ∃ r : ByteArray, e = .returned (.string r) ∧ r.data.toList = (blks 64 k256.step v s.data.toList).2 ∧
      Hs32 w' p (blks 64 k256.step v s.data.toList).1 O rest size ∧ (blks 64 k256.step v s.data.toList).1.Ok 32 ∧ Upd [p] w w' := by
  have lp := (Array.getElem?_eq_some_iff.1 h).1
  have hz : ∀ w, (zeroValue 63).run Try.prog w = .ok (.agg z80) w := fun _ => by kernel_rfl
  have h1 : kcells.all (·.oneCell') = true := by kernel_rfl
  have hn := heap_alloc_new (w.alloc (.cells kcells 63)) (.cells z80 63)
  rw [World.size_alloc] at hn
  have hst : Hs32 ((w.alloc (.cells kcells 63)).alloc (.cells kcells 63)) p v O rest size := by
    unfold Hs32; rw [heap_alloc_old _ _ (by simp; omega), heap_alloc_old _ _ lp]; exact h
  have hkc : ((w.alloc (.cells kcells 63)).alloc (.cells kcells 63)).heap[w.heap.size + 1]? = some (.cells kcells 63 (0, 0)) := by
    have := heap_alloc_new (w.alloc (.cells kcells 63)) (.cells kcells 63)
    rwa [World.size_alloc] at this
  have hu0 : Upd [p] w ((w.alloc (.cells kcells 63)).alloc (.cells kcells 63)) := ((Upd.refl _ _).alloc _).alloc _
  have H1 := Box.mk h1; have HN := Box.mk hn; have HST := Box.mk hst; have HKC := Box.mk hkc; have HU0 := Box.mk hu0
  clear h1 hn hst hkc hu0 h
  have hsr : ((w.alloc (.cells kcells 63)).alloc (.cells z80 63)).setRow (w.heap.size + 1) kcells = (w.alloc (.cells kcells 63)).alloc (.cells kcells 63) := by
    have := World.setRow_alloc_new (w.alloc (.cells kcells 63)) z80 kcells 63
    rwa [World.size_alloc] at this
  have HSR := Box.mk hsr; clear hsr
  have lp1 : p < w.heap.size + 2 := by omega
  obtain ⟨f, hf⟩ : ∃ f, f = k256.step := ⟨_, rfl⟩
  have HF := Box.mk hf
  rw [← hf]
  clear hf
  go_enter Try.func18, Try.ntmps18
  go_wp2_with (first
    | ((with_reducible refine (rounds_any _).mono ?_); rintro e w' ⟨rfl, rfl⟩)
    | ((with_reducible refine wpList_store_row rfl 63 (.tmp 5) (.tmp 6) rfl (w.heap.size + 1) kcells ?_ ?_ 63 z80 HN.out ?_ ?_ H1.out ?_); rfl; rfl; kernel_rfl; rfl))
  rw [HSR.out]
  go_frame
  clear hz H1 HN HSR
  go_loopw [1] (fun sv wr => ∃ (m : Nat) (sm : ByteArray), sv = .string sm ∧ sm.data.toList = (run 64 f m v s.data.toList).2 ∧ m * 64 ≤ s.data.toList.length ∧ Hs32 wr p (run 64 f m v s.data.toList).1 O rest size ∧ (run 64 f m v s.data.toList).1.Ok 32 ∧
      wr.heap[w.heap.size + 1]? = some (.cells kcells 63 (0, 0)) ∧ Upd [p] w wr ∧ w.heap.size + 1 < wr.heap.size) (fun sv _ => match sv with | .string s => s.size | _ => 0)
  case atStart => exact ⟨0, s, rfl, rfl, by omega, HST.out, hv, HKC.out, HU0.out, by simp⟩
  case round =>
    clear HST HKC HU0
    obtain ⟨m, sm, rfl, hsm, hm, hs, hok, hkc, hu, hz2⟩ := hrel
    have hsl : sm.size = s.data.toList.length - m * 64 := by rw [← size_list, hsm, run_len _ _ _ _ _ hm]
    have HSL := Box.mk hsl; clear hsl
    have hszm : sm.size ≤ s.size := by
      rw [← size_list, hsm, run_len _ _ _ _ _ hm, size_list]; omega
    have k0 := cell_of_row _ _ 0 _ _ _ hs
    simp [hc32, hcells] at k0
    have HS := Box.mk hs; have HKC := Box.mk hkc; have HU := Box.mk hu; have HOK := Box.mk hok; have HSM := Box.mk hsm; have HM := Box.mk hm
    clear hs hkc hu hok hsm hm
    by_cases hlt : 64 ≤ sm.size
    · have hltI : (64 : Int) ≤ (sm.size : Int) := by omega
      have r1 := run_one 64 f m v s.data.toList
      have R1 := Box.mk r1; clear r1
      generalize hvm : (run 64 f m v s.data.toList).1 = vm at HS HOK R1
      generalize hlm : (run 64 f m v s.data.toList).2 = lm at HSM R1
      clear hvm hlm
      have e1 := extract_take sm 64
      have e1s : (sm.extract 0 64).size = 64 := by simp; omega
      have E1 := Box.mk e1; have E1S := Box.mk e1s
      clear e1 e1s
      go_wp2_with ((with_reducible refine (long32_any p _ _ _ _ _ HS.out).mono ?_); rintro e w' ⟨rfl, rfl⟩)
      go_region_with (first
        | (go_at_call 19; refine (long32_any p vm O rest size _ ?hs1).mono ?_; (case hs1 => exact HS.out); rintro e w' ⟨rfl, rfl⟩)
        | (go_at_call 30; refine (read32_any (sm.extract 0 64) E1S.out _).mono ?_; rintro e w1 ⟨g, cap, rfl, hgl, hcells, hb1⟩; have HC1 := Box.mk hcells; have HB1 := Box.mk hb1; clear hcells hb1)
        | (go_at_call 31; refine (s256_any _).mono ?_; rintro e w2 ⟨rfl, rfl⟩)
        | (go_at_call 29; refine (blockZ32 p (w.heap.size + 1) g cap vm O rest size (sm.extract 0 64).data.toList wr.drew w1 ?h1 ?h2 ?h3 ?h4 ?h5).mono ?_; (case h4 => exact HB1.out); (case h1 => exact HS.out); (case h2 => exact HOK.out); (case h3 => exact HKC.out); (case h5 => exact HC1.out); rintro e w4 ⟨rfl, hs4, hok4, hu4⟩; have HS4 := Box.mk hs4; have HOK4 := Box.mk hok4; have HU4 := Box.mk hu4; clear hs4 hok4 hu4))
      go_wp2_with ((with_reducible refine (long32_any p _ _ _ _ _ HS4.out).mono ?_); rintro e w' ⟨rfl, rfl⟩)
      have hu4 : Upd [p] wr w4 := (Upd.refl [p] wr).drew.trans HU4.out
      have hz4 := hu4.size
      refine ⟨⟨m + 1, sm.extract 64 sm.size, rfl, ?_, ?_, ?_, ?_, ?_, HU.out.trans hu4, by omega⟩, ?_⟩
      · rw [R1.out, extract_drop _ _ _ rfl, HSM.out]
      · have := HSL.out; rw [Nat.add_mul]; omega
      · rw [R1.out, ← HSM.out, ← E1.out, HF.out]; exact HS4.out
      · rw [R1.out, ← HSM.out, ← E1.out, HF.out]; exact HOK4.out
      · exact (hu4.block _ hz2 (by simp; omega)).trans HKC.out
      · show (sm.extract 64 sm.size).size < sm.size
        simp; omega
    · have hltI : ¬ (64 : Int) ≤ (sm.size : Int) := by omega
      have hfin := run_blks (B := 64) (by omega) f m v s.data.toList HM.out (by rw [← HSM.out, size_list]; omega)
      have HFIN := Box.mk hfin
      clear hfin
      go_wp2_with ((with_reducible refine (long32_any p _ _ _ _ _ HS.out).mono ?_); rintro e w' ⟨rfl, rfl⟩)
      go_ret
      exact ⟨sm, rfl, by rw [HSM.out, HFIN.out], by rw [← HFIN.out]; exact HS.out, by rw [← HFIN.out]; exact HOK.out, HU.out⟩

end Go.Proofs.Ytbjapmhfnegmeaa
