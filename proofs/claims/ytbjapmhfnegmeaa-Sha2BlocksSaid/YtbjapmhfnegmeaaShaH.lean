/- SHA-2: blocks of words of 64 bits. -/
import Derived.Test.YtbjapmhfnegmeaaShaD
import Derived.Test.YtbjapmhfnegmeaaShaG
import Derived.Deep.RegionWith
namespace Go.Proofs.Ytbjapmhfnegmeaa
set_option linter.unusedVariables false
open Go Go.RowKit Sha

theorem ks512 : (K.take 80).map (· / 2 ^ 0) = k512.ks := by simp [k512]; rfl
theorem ks512_len : (K.take 80).length = 80 := by decide
theorem blockK64 (p gk g cap : Nat) (v O : V8) (rest : ByteArray) (size : Int) (l : List UInt8) (w : World) (h : Hs64 w p v O rest size) (hv : v.Ok 64)
    (hin : ∀ j x, (wordsOf 8 16 l)[j]? = some x → w.cell? ⟨g, j, none⟩ = some (u64v x)) (hkc : w.heap[gk]? = some (.cells kcells 63 (0, 0))) :
    Calls Try.prog 32 #[.pointer (some ⟨p, 9, none⟩), .slice (some ⟨g, 0, none⟩) 16 cap, .slice (some ⟨gk, 0, none⟩) 80 80, .agg (shl sh512), .int .i64 64] w fun e w' => e = .returned (.tuple #[]) ∧
      Hs64 w' p (k512.step v l) O rest size ∧ (k512.step v l).Ok 64 ∧ Upd [p] w w' := by
  have b := block64_any p g gk 80 cap 1 v O rest size (K.take 80) (wordsOf 8 16 l) sh512 w hv sh512_ok (wordsOf_len _ _ _) (by rw [ks512_len]; omega) (wordsOf_lt 8 16 l) (fun x hx => K_lt x (List.mem_of_mem_take hx)) h hin (fun j x hj => kcell j x w gk hkc 80 hj)
  rw [ks512_len, ks512] at b
  exact b.mono fun e w' ⟨he, hs, hu⟩ => ⟨he, hs, plus_ok _ _ _, hu⟩

theorem blockZ64 (p gk g cap : Nat) (v O : V8) (rest : ByteArray) (size : Int) (l : List UInt8) (w w1 : World) (h : Hs64 w p v O rest size) (hv : v.Ok 64) (hkc : w.heap[gk]? = some (.cells kcells 63 (0, 0)))
    (hb : Below w.heap.size w w1) (hin : ∀ j x, (wordsOf 8 16 l)[j]? = some x → w1.cell? ⟨g, j, none⟩ = some (u64v x)) :
    Calls Try.prog 32 #[.pointer (some ⟨p, 9, none⟩), .slice (some ⟨g, 0, none⟩) 16 cap, .slice (some ⟨gk, 0, none⟩) 80 80, .agg (shl sh512), .int .i64 64] (w1.alloc (.cells (shl sh512) 70)) fun e w' => e = .returned (.tuple #[]) ∧
      Hs64 w' p (k512.step v l) O rest size ∧ (k512.step v l).Ok 64 ∧ Upd [p] w w' := by
  have hz := hb.size
  have l1 := (Array.getElem?_eq_some_iff.1 h).1
  have l2 := (Array.getElem?_eq_some_iff.1 hkc).1
  refine (blockK64 p gk g cap v O rest size l _ ?_ hv ?_ ?_).mono fun e w' ⟨he, hs, hok, hu⟩ => ⟨he, hs, hok, ((Upd.of_below hb).alloc _).trans hu⟩
  · unfold Hs64; rw [heap_alloc_old _ _ (by omega), hb.block p l1]; exact h
  · intro j x hj
    have := hin j x hj
    rw [World.cell?_of_block (w := w1) (a := ⟨g, j, none⟩) (heap_alloc_old _ _ (World.block_lt_of_cell? _ _ this))]; exact this
  · rw [heap_alloc_old _ _ (by omega), hb.block gk l2]; exact hkc
set_option maxRecDepth 100000 in
set_option maxHeartbeats 4000000 in
theorem blocks64_any (p : Nat) (v O : V8) (rest : ByteArray) (size : Int) (s : ByteArray) (w : World) (h : Hs64 w p v O rest size) (hv : v.Ok 64) (hsz : s.size ≤ 1000000) :
    Calls Try.prog 18 #[.pointer (some ⟨p, 0, none⟩), .string s] w fun e w' => ∃ r : ByteArray, e = .returned (.string r) ∧ r.data.toList = (blks 128 k512.step v s.data.toList).2 ∧
      Hs64 w' p (blks 128 k512.step v s.data.toList).1 O rest size ∧ (blks 128 k512.step v s.data.toList).1.Ok 64 ∧ Upd [p] w w' := by
  have lp := (Array.getElem?_eq_some_iff.1 h).1
  have hz : ∀ w, (zeroValue 63).run Try.prog w = .ok (.agg z80) w := fun _ => by kernel_rfl
  have h1 : kcells.all (·.oneCell') = true := by kernel_rfl
  have hn := heap_alloc_new (w.alloc (.cells kcells 63)) (.cells z80 63)
  rw [World.size_alloc] at hn
  have hst : Hs64 ((w.alloc (.cells kcells 63)).alloc (.cells kcells 63)) p v O rest size := by
    unfold Hs64; rw [heap_alloc_old _ _ (by simp; omega), heap_alloc_old _ _ lp]; exact h
  have hkc : ((w.alloc (.cells kcells 63)).alloc (.cells kcells 63)).heap[w.heap.size + 1]? = some (.cells kcells 63 (0, 0)) := by
    have := heap_alloc_new (w.alloc (.cells kcells 63)) (.cells kcells 63)
    rwa [World.size_alloc] at this
  have hu0 : Upd [p] w ((w.alloc (.cells kcells 63)).alloc (.cells kcells 63)) := ((Upd.refl _ _).alloc _).alloc _
  have H1 := Box.mk h1; have HN := Box.mk hn; have HST := Box.mk hst; have HKC := Box.mk hkc; have HU0 := Box.mk hu0
  clear h1 hn hst hkc hu0 h
  have hsr : ((w.alloc (.cells kcells 63)).alloc (.cells z80 63)).setRow (w.heap.size + 1) kcells = (w.alloc (.cells kcells 63)).alloc (.cells kcells 63) := by
    have := World.setRow_alloc_new (w.alloc (.cells kcells 63)) z80 kcells 63
    rwa [World.size_alloc] at this
  have HSR := Box.mk hsr; clear hsr
  have lp1 : p < w.heap.size + 2 := by omega
  obtain ⟨f, hf⟩ : ∃ f, f = k512.step := ⟨_, rfl⟩
  have HF := Box.mk hf
  rw [← hf]
  clear hf
  go_enter Try.func18, Try.ntmps18
  go_wp2_with (first
    | ((with_reducible refine (rounds_any _).mono ?_); rintro e w' ⟨rfl, rfl⟩)
    | ((with_reducible refine wpList_store_row rfl 63 (.tmp 5) (.tmp 6) rfl (w.heap.size + 1) kcells ?_ ?_ 63 z80 HN.out ?_ ?_ H1.out ?_); rfl; rfl; kernel_rfl; rfl))
  rw [HSR.out]
  go_frame
  clear hz H1 HN HSR
  go_loopw [1] (fun sv wr => ∃ (m : Nat) (sm : ByteArray), sv = .string sm ∧ sm.data.toList = (run 128 f m v s.data.toList).2 ∧ m * 128 ≤ s.data.toList.length ∧ Hs64 wr p (run 128 f m v s.data.toList).1 O rest size ∧ (run 128 f m v s.data.toList).1.Ok 64 ∧
      wr.heap[w.heap.size + 1]? = some (.cells kcells 63 (0, 0)) ∧ Upd [p] w wr ∧ w.heap.size + 1 < wr.heap.size) (fun sv _ => match sv with | .string s => s.size | _ => 0)
  case atStart => exact ⟨0, s, rfl, rfl, by omega, HST.out, hv, HKC.out, HU0.out, by simp⟩
  case round =>
    clear HST HKC HU0
    obtain ⟨m, sm, rfl, hsm, hm, hs, hok, hkc, hu, hz2⟩ := hrel
    have hsl : sm.size = s.data.toList.length - m * 128 := by rw [← size_list, hsm, run_len _ _ _ _ _ hm]
    have HSL := Box.mk hsl; clear hsl
    have hszm : sm.size ≤ s.size := by
      rw [← size_list, hsm, run_len _ _ _ _ _ hm, size_list]; omega
    have k0 := cell_of_row _ _ 0 _ _ _ hs
    simp [hc64, hcells] at k0
    have HS := Box.mk hs; have HKC := Box.mk hkc; have HU := Box.mk hu; have HOK := Box.mk hok; have HSM := Box.mk hsm; have HM := Box.mk hm
    clear hs hkc hu hok hsm hm
    by_cases hlt : 128 ≤ sm.size
    · have hltI : (128 : Int) ≤ (sm.size : Int) := by omega
      have r1 := run_one 128 f m v s.data.toList
      have R1 := Box.mk r1; clear r1
      generalize hvm : (run 128 f m v s.data.toList).1 = vm at HS HOK R1
      generalize hlm : (run 128 f m v s.data.toList).2 = lm at HSM R1
      clear hvm hlm
      have e1 := extract_take sm 128
      have e1s : (sm.extract 0 128).size = 128 := by simp; omega
      have E1 := Box.mk e1; have E1S := Box.mk e1s
      clear e1 e1s
      go_wp2_with ((with_reducible refine (long64_any p _ _ _ _ _ HS.out).mono ?_); rintro e w' ⟨rfl, rfl⟩)
      go_region_with (first
        | (go_at_call 19; refine (long64_any p vm O rest size _ ?hs1).mono ?_; (case hs1 => exact HS.out); rintro e w' ⟨rfl, rfl⟩)
        | (go_at_call 33; refine (read64_any (sm.extract 0 128) E1S.out _).mono ?_; rintro e w1 ⟨g, cap, rfl, hgl, hcells, hb1⟩; have HC1 := Box.mk hcells; have HB1 := Box.mk hb1; clear hcells hb1)
        | (go_at_call 34; refine (s512_any _).mono ?_; rintro e w2 ⟨rfl, rfl⟩)
        | (go_at_call 32; refine (blockZ64 p (w.heap.size + 1) g cap vm O rest size (sm.extract 0 128).data.toList wr.drew w1 ?h1 ?h2 ?h3 ?h4 ?h5).mono ?_; (case h4 => exact HB1.out); (case h1 => exact HS.out); (case h2 => exact HOK.out); (case h3 => exact HKC.out); (case h5 => exact HC1.out); rintro e w4 ⟨rfl, hs4, hok4, hu4⟩; have HS4 := Box.mk hs4; have HOK4 := Box.mk hok4; have HU4 := Box.mk hu4; clear hs4 hok4 hu4))
      go_wp2_with ((with_reducible refine (long64_any p _ _ _ _ _ HS4.out).mono ?_); rintro e w' ⟨rfl, rfl⟩)
      have hu4 : Upd [p] wr w4 := (Upd.refl [p] wr).drew.trans HU4.out
      have hz4 := hu4.size
      refine ⟨⟨m + 1, sm.extract 128 sm.size, rfl, ?_, ?_, ?_, ?_, ?_, HU.out.trans hu4, by omega⟩, ?_⟩
      · rw [R1.out, extract_drop _ _ _ rfl, HSM.out]
      · have := HSL.out; rw [Nat.add_mul]; omega
      · rw [R1.out, ← HSM.out, ← E1.out, HF.out]; exact HS4.out
      · rw [R1.out, ← HSM.out, ← E1.out, HF.out]; exact HOK4.out
      · exact (hu4.block _ hz2 (by simp; omega)).trans HKC.out
      · show (sm.extract 128 sm.size).size < sm.size
        simp; omega
    · have hltI : ¬ (128 : Int) ≤ (sm.size : Int) := by omega
      have hfin := run_blks (B := 128) (by omega) f m v s.data.toList HM.out (by rw [← HSM.out, size_list]; omega)
      have HFIN := Box.mk hfin
      clear hfin
      go_wp2_with ((with_reducible refine (long64_any p _ _ _ _ _ HS.out).mono ?_); rintro e w' ⟨rfl, rfl⟩)
      go_ret
      exact ⟨sm, rfl, by rw [HSM.out, HFIN.out], by rw [← HFIN.out]; exact HS.out, by rw [← HFIN.out]; exact HOK.out, HU.out⟩

end Go.Proofs.Ytbjapmhfnegmeaa
