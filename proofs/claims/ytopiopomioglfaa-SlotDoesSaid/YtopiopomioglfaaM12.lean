/- SHA-2: blocks of words of 64 bits. SHA-2: the state of a sum that goes on; New, Write, Sum: words of 64 bits. SHA-2: the state of a sum that goes on; New, Write, Sum: words of 64 bits. SHA-2: the program's hashes, for both kinds, by the bytes that they have; One. Images in slots: End, Check. The flash: a torn step: plain laws. -/
import Derived.Test.YtopiopomioglfaaM11
import Derived.Test.YtopiopomioglfaaM10
import Derived.Deep.RegionWith
import Derived.Test.YtopiopomioglfaaM05
import Derived.Test.YtopiopomioglfaaM02
import Derived.Laws.BitsAllLaws
namespace Go.Proofs.Ytopiopomioglfaa
set_option maxRecDepth 100000
set_option linter.unusedVariables false
open Go Go.RowKit Sha

theorem ks512 : (K.take 80).map (· / 2 ^ 0) = k512.ks := by simp [k512]; rfl
theorem ks512_len : (K.take 80).length = 80 := by decide
theorem blockK64 (p gk g cap : Nat) (v O : V8) (rest : ByteArray) (size : Int) (l : List UInt8) (w : World) (h : Hs64 w p v O rest size) (hv : v.Ok 64)
    (hin : ∀ j x, (wordsOf 8 16 l)[j]? = some x → w.cell? ⟨g, j, none⟩ = some (u64v x)) (hkc : w.heap[gk]? = some (.cells kcells 113 (0, 0))) :
    Calls Try.prog 71 #[.pointer (some ⟨p, 9, none⟩), .slice (some ⟨g, 0, none⟩) 16 cap, .slice (some ⟨gk, 0, none⟩) 80 80, .agg (shl sh512), .int .i64 64] w fun e w' => e = .returned (.tuple #[]) ∧
      Hs64 w' p (k512.step v l) O rest size ∧ (k512.step v l).Ok 64 ∧ Upd [p] w w' := by
  have b := block64_any p g gk 80 cap 1 v O rest size (K.take 80) (wordsOf 8 16 l) sh512 w hv sh512_ok (wordsOf_len _ _ _) (by rw [ks512_len]; omega) (wordsOf_lt 8 16 l) (fun x hx => K_lt x (List.mem_of_mem_take hx)) h hin (fun j x hj => kcell j x w gk hkc 80 hj)
  rw [ks512_len, ks512] at b
  exact b.mono fun e w' ⟨he, hs, hu⟩ => ⟨he, hs, plus_ok _ _ _, hu⟩

theorem blockZ64 (p gk g cap : Nat) (v O : V8) (rest : ByteArray) (size : Int) (l : List UInt8) (w w1 : World) (h : Hs64 w p v O rest size) (hv : v.Ok 64) (hkc : w.heap[gk]? = some (.cells kcells 113 (0, 0)))
    (hb : Below w.heap.size w w1) (hin : ∀ j x, (wordsOf 8 16 l)[j]? = some x → w1.cell? ⟨g, j, none⟩ = some (u64v x)) :
    Calls Try.prog 71 #[.pointer (some ⟨p, 9, none⟩), .slice (some ⟨g, 0, none⟩) 16 cap, .slice (some ⟨gk, 0, none⟩) 80 80, .agg (shl sh512), .int .i64 64] (w1.alloc (.cells (shl sh512) 120)) fun e w' => e = .returned (.tuple #[]) ∧
      Hs64 w' p (k512.step v l) O rest size ∧ (k512.step v l).Ok 64 ∧ Upd [p] w w' := by
  have hz := hb.size
  have l1 := (Array.getElem?_eq_some_iff.1 h).1
  have l2 := (Array.getElem?_eq_some_iff.1 hkc).1
  refine (blockK64 p gk g cap v O rest size l _ ?_ hv ?_ ?_).mono fun e w' ⟨he, hs, hok, hu⟩ => ⟨he, hs, hok, ((Upd.of_below hb).alloc _).trans hu⟩
  · unfold Hs64; rw [heap_alloc_old _ _ (by omega), hb.block p l1]; exact h
  · intro j x hj
    have := hin j x hj
    rw [World.cell?_of_block (w := w1) (a := ⟨g, j, none⟩) (heap_alloc_old _ _ (World.block_lt_of_cell? _ _ this))]; exact this
  · rw [heap_alloc_old _ _ (by omega), hb.block gk l2]; exact hkc
set_option maxRecDepth 100000 in
set_option maxHeartbeats 4000000 in
theorem blocks64_any (p : Nat) (v O : V8) (rest : ByteArray) (size : Int) (s : ByteArray) (w : World) (h : Hs64 w p v O rest size) (hv : v.Ok 64) (hsz : s.size ≤ 1000000) :
    Calls Try.prog 50 #[.pointer (some ⟨p, 0, none⟩), .string s] w fun e w' => ∃ r : ByteArray, e = .returned (.string r) ∧ r.data.toList = (blks 128 k512.step v s.data.toList).2 ∧
      Hs64 w' p (blks 128 k512.step v s.data.toList).1 O rest size ∧ (blks 128 k512.step v s.data.toList).1.Ok 64 ∧ Upd [p] w w' := by
  have lp := (Array.getElem?_eq_some_iff.1 h).1
  have hz : ∀ w, (zeroValue 113).run Try.prog w = .ok (.agg z80) w := fun _ => by kernel_rfl
  have h1 : kcells.all (·.oneCell') = true := by kernel_rfl
  have hn := heap_alloc_new (w.alloc (.cells kcells 113)) (.cells z80 113)
  rw [World.size_alloc] at hn
  have hst : Hs64 ((w.alloc (.cells kcells 113)).alloc (.cells kcells 113)) p v O rest size := by
    unfold Hs64; rw [heap_alloc_old _ _ (by simp; omega), heap_alloc_old _ _ lp]; exact h
  have hkc : ((w.alloc (.cells kcells 113)).alloc (.cells kcells 113)).heap[w.heap.size + 1]? = some (.cells kcells 113 (0, 0)) := by
    have := heap_alloc_new (w.alloc (.cells kcells 113)) (.cells kcells 113)
    rwa [World.size_alloc] at this
  have hu0 : Upd [p] w ((w.alloc (.cells kcells 113)).alloc (.cells kcells 113)) := ((Upd.refl _ _).alloc _).alloc _
  have H1 := Box.mk h1; have HN := Box.mk hn; have HST := Box.mk hst; have HKC := Box.mk hkc; have HU0 := Box.mk hu0
  clear h1 hn hst hkc hu0 h
  have hsr : ((w.alloc (.cells kcells 113)).alloc (.cells z80 113)).setRow (w.heap.size + 1) kcells = (w.alloc (.cells kcells 113)).alloc (.cells kcells 113) := by
    have := World.setRow_alloc_new (w.alloc (.cells kcells 113)) z80 kcells 113
    rwa [World.size_alloc] at this
  have HSR := Box.mk hsr; clear hsr
  have lp1 : p < w.heap.size + 2 := by omega
  obtain ⟨f, hf⟩ : ∃ f, f = k512.step := ⟨_, rfl⟩
  have HF := Box.mk hf
  rw [← hf]
  clear hf
  go_enter Try.func50, Try.ntmps50
  go_wp2_with (first
    | ((with_reducible refine (rounds_any _).mono ?_); rintro e w' ⟨rfl, rfl⟩)
    | ((with_reducible refine wpList_store_row rfl 113 (.tmp 5) (.tmp 6) rfl (w.heap.size + 1) kcells ?_ ?_ 113 z80 HN.out ?_ ?_ H1.out ?_); rfl; rfl; kernel_rfl; rfl))
  rw [HSR.out]
  go_frame
  clear hz H1 HN HSR
  go_loopw [1] (fun sv wr => ∃ (m : Nat) (sm : ByteArray), sv = .string sm ∧ sm.data.toList = (run 128 f m v s.data.toList).2 ∧ m * 128 ≤ s.data.toList.length ∧ Hs64 wr p (run 128 f m v s.data.toList).1 O rest size ∧ (run 128 f m v s.data.toList).1.Ok 64 ∧
      wr.heap[w.heap.size + 1]? = some (.cells kcells 113 (0, 0)) ∧ Upd [p] w wr ∧ w.heap.size + 1 < wr.heap.size) (fun sv _ => match sv with | .string s => s.size | _ => 0)
  case atStart => exact ⟨0, s, rfl, rfl, by omega, HST.out, hv, HKC.out, HU0.out, by simp⟩
  case round =>
    clear HST HKC HU0
    obtain ⟨m, sm, rfl, hsm, hm, hs, hok, hkc, hu, hz2⟩ := hrel
    have hsl : sm.size = s.data.toList.length - m * 128 := by rw [← size_list, hsm, run_len _ _ _ _ _ hm]
    have HSL := Box.mk hsl; clear hsl
    have hszm : sm.size ≤ s.size := by
      rw [← size_list, hsm, run_len _ _ _ _ _ hm, size_list]; omega
    have k0 := cell_of_row _ _ 0 _ _ _ hs
    simp [hc64, hcells] at k0
    have HS := Box.mk hs; have HKC := Box.mk hkc; have HU := Box.mk hu; have HOK := Box.mk hok; have HSM := Box.mk hsm; have HM := Box.mk hm
    clear hs hkc hu hok hsm hm
    by_cases hlt : 128 ≤ sm.size
    · have hltI : (128 : Int) ≤ (sm.size : Int) := by omega
      have r1 := run_one 128 f m v s.data.toList
      have R1 := Box.mk r1; clear r1
      generalize hvm : (run 128 f m v s.data.toList).1 = vm at HS HOK R1
      generalize hlm : (run 128 f m v s.data.toList).2 = lm at HSM R1
      clear hvm hlm
      have e1 := extract_take sm 128
      have e1s : (sm.extract 0 128).size = 128 := by simp; omega
      have E1 := Box.mk e1; have E1S := Box.mk e1s
      clear e1 e1s
      go_wp2_with ((with_reducible refine (long64_any p _ _ _ _ _ HS.out).mono ?_); rintro e w' ⟨rfl, rfl⟩)
      go_region_with (first
        | (go_at_call 52; refine (long64_any p vm O rest size _ ?hs1).mono ?_; (case hs1 => exact HS.out); rintro e w' ⟨rfl, rfl⟩)
        | (go_at_call 72; refine (read64_any (sm.extract 0 128) E1S.out _).mono ?_; rintro e w1 ⟨g, cap, rfl, hgl, hcells, hb1⟩; have HC1 := Box.mk hcells; have HB1 := Box.mk hb1; clear hcells hb1)
        | (go_at_call 73; refine (s512_any _).mono ?_; rintro e w2 ⟨rfl, rfl⟩)
        | (go_at_call 71; refine (blockZ64 p (w.heap.size + 1) g cap vm O rest size (sm.extract 0 128).data.toList wr.drew w1 ?h1 ?h2 ?h3 ?h4 ?h5).mono ?_; (case h4 => exact HB1.out); (case h1 => exact HS.out); (case h2 => exact HOK.out); (case h3 => exact HKC.out); (case h5 => exact HC1.out); rintro e w4 ⟨rfl, hs4, hok4, hu4⟩; have HS4 := Box.mk hs4; have HOK4 := Box.mk hok4; have HU4 := Box.mk hu4; clear hs4 hok4 hu4))
      go_wp2_with ((with_reducible refine (long64_any p _ _ _ _ _ HS4.out).mono ?_); rintro e w' ⟨rfl, rfl⟩)
      have hu4 : Upd [p] wr w4 := (Upd.refl [p] wr).drew.trans HU4.out
      have hz4 := hu4.size
      refine ⟨⟨m + 1, sm.extract 128 sm.size, rfl, ?_, ?_, ?_, ?_, ?_, HU.out.trans hu4, by omega⟩, ?_⟩
      · rw [R1.out, extract_drop _ _ _ rfl, HSM.out]
      · have := HSL.out; rw [Nat.add_mul]; omega
      · rw [R1.out, ← HSM.out, ← E1.out, HF.out]; exact HS4.out
      · rw [R1.out, ← HSM.out, ← E1.out, HF.out]; exact HOK4.out
      · exact (hu4.block _ hz2 (by simp; omega)).trans HKC.out
      · show (sm.extract 128 sm.size).size < sm.size
        simp; omega
    · have hltI : ¬ (128 : Int) ≤ (sm.size : Int) := by omega
      have hfin := run_blks (B := 128) (by omega) f m v s.data.toList HM.out (by rw [← HSM.out, size_list]; omega)
      have HFIN := Box.mk hfin
      clear hfin
      go_wp2_with ((with_reducible refine (long64_any p _ _ _ _ _ HS.out).mono ?_); rintro e w' ⟨rfl, rfl⟩)
      go_ret
      exact ⟨sm, rfl, by rw [HSM.out, HFIN.out], by rw [← HFIN.out]; exact HS.out, by rw [← HFIN.out]; exact HOK.out, HU.out⟩

end Go.Proofs.Ytopiopomioglfaa
namespace Go.Proofs.Ytopiopomioglfaa
set_option maxRecDepth 100000
set_option linter.unusedVariables false
open Go Go.RowKit Sha

/-- The hash at p goes on from the state st. -/
def St64 (w : World) (p : Nat) (st : St) : Prop := ∃ (O : V8) (r : ByteArray), Hs64 w p st.v O r st.n ∧ r.data.toList = st.r ∧ st.v.Ok 64 ∧ st.r.length = st.n % 128
theorem St64.lt {w : World} {p : Nat} {st : St} (h : St64 w p st) : p < w.heap.size := by
  obtain ⟨_, _, h, _⟩ := h
  exact (Array.getElem?_eq_some_iff.1 h).1
theorem St64.keep {w w' : World} {p : Nat} {st : St} (h : St64 w p st) (hk : w'.heap[p]? = w.heap[p]?) : St64 w' p st := by
  obtain ⟨O, r, h, k⟩ := h
  exact ⟨O, r, hk.trans h, k⟩
theorem k512_ok : k512.h.Ok 64 := ⟨by decide, by decide, by decide, by decide, by decide, by decide, by decide, by decide⟩
theorem new64_any (w : World) : Calls Try.prog 34 #[.int .i64 1] w fun e w' => ∃ p, e = .returned (.tuple #[.pointer (some ⟨p, 0, none⟩), .int .i64 0]) ∧ w.heap.size ≤ p ∧ St64 w' p k512.new ∧ Below w.heap.size w w' :=
  (new_loop 1 w (by simp)).mono fun _ _ ⟨p, he, hp, hg, hb⟩ => ⟨p, he, hp, ⟨_, _, hg, rfl, k512_ok, rfl⟩, hb⟩
theorem clone64_any (p : Nat) (st : St) (w : World) (h : St64 w p st) : Calls Try.prog 51 #[.pointer (some ⟨p, 0, none⟩)] w fun e w' => e = .returned (.pointer (some ⟨w.heap.size, 0, none⟩)) ∧ St64 w' w.heap.size st ∧ Below w.heap.size w w' := by
  obtain ⟨O, r, hg, h⟩ := h
  exact (shclone_any p _ _ _ r st.n w hg).mono fun _ _ ⟨he, hw⟩ => ⟨he, by subst hw; exact ⟨O, r, heap_alloc_new _ _, h⟩, by subst hw; exact (Below.refl _ _).alloc (Nat.le_refl _) _⟩
set_option maxHeartbeats 1000000 in
theorem write64_any (p : Nat) (st : St) (s : ByteArray) (w : World) (h : St64 w p st) (hs : s.size ≤ 500000) (hn : st.n ≤ 500000) :
    Calls Try.prog 35 #[.pointer (some ⟨p, 0, none⟩), .string s] w fun e w' => e = .returned (.tuple #[]) ∧ St64 w' p (k512.write st s.data.toList) ∧ Upd [p] w w' := by
  obtain ⟨O, r, hg, hr, hok, hl⟩ := h
  have k18 := cell_of_row _ _ 18 _ _ _ hg
  have k17 := cell_of_row _ _ 17 _ _ _ hg
  have fz := fun j => frozen_of_row _ _ j _ _ hg
  have f17 := fz 17; have f18 := fz 18
  simp [hc64, hcells] at k18 k17
  have hg1 : Hs64 (w.setCell ⟨p, 18, none⟩ (.int .i64 ((st.n : Int) + (s.size : Int)))) p st.v O r ((st.n : Int) + (s.size : Int)) := by
    unfold Hs64; rw [heap_setCell_same _ _ _ _ _ _ hg]; rfl
  have hrs : (r ++ s).size ≤ 1000000 := by
    rw [ByteArray.size_append, ← size_list r, hr, hl]; omega
  have HCAT : Box (¬ 9223372036854775807 < r.size + s.size) := ⟨by rw [ByteArray.size_append] at hrs; omega⟩
  have hra : (r ++ s).data.toList = st.r ++ s.data.toList := by rw [← hr]; simp
  have hbl := blks_rest (B := 128) (by omega) k512.step st.v (st.r ++ s.data.toList)
  have hb := blocks64_any p st.v O r ((st.n : Int) + (s.size : Int)) (r ++ s) _ hg1 hok hrs
  rw [hra] at hb
  have hw : ∀ q, blks 128 k512.step st.v (st.r ++ s.data.toList) = q → k512.write st s.data.toList = ⟨q.1, q.2, st.n + s.size⟩ := by
    intro q hq; subst hq; unfold Sha.Kd.write; rw [size_list]; rfl
  have hw := hw _ rfl
  rw [hw]
  generalize blks 128 k512.step st.v (st.r ++ s.data.toList) = q at hb hbl ⊢
  have HB := Box.mk hb; have HBL := Box.mk hbl; have HL := Box.mk hl; have HG := Box.mk hg
  clear hb hbl hl hg hw hra hrs hg1 hr hok fz
  have b1 : (0 : Int) ≤ (st.n : Int) + (s.size : Int) := by omega
  have hcat : ¬ 9223372036854775807 < r.size + s.size := HCAT.out
  go_enter Try.func35, Try.ntmps35
  go_wp2_with ((with_reducible refine HB.out.mono ?_); rintro e w1 ⟨r1, rfl, hr1, hs1, hok1, hu1⟩; have HR1 := Box.mk hr1; have HS1 := Box.mk hs1; have HOK1 := Box.mk hok1; have HU1 := Box.mk hu1; have c17 := cell_of_row _ _ 17 _ _ _ hs1; have g17 := frozen_of_row _ _ 17 _ _ hs1; simp [hc64, hcells] at c17; clear hr1 hs1 hok1 hu1)
  go_end0
  refine ⟨rfl, ⟨O, r1, ?_, HR1.out, HOK1.out, ?_⟩, ?_⟩
  · have h1 : (w1.setCell ⟨p, 17, none⟩ (.string r1)).heap[p]? = some (.cells (hc64 1 q.1 O r1 ((st.n : Int) + (s.size : Int))) 98 (0, 0)) := by
      rw [heap_setCell_same _ _ _ _ _ _ HS1.out]; rfl
    exact h1
  · show q.2.length = (st.n + s.size) % 128
    rw [HBL.out, List.length_append, HL.out, size_list]; omega
  · exact (((Upd.refl [p] w).setCell (by simp) _).trans HU1.out).setCell (by simp) _

end Go.Proofs.Ytopiopomioglfaa
namespace Go.Proofs.Ytopiopomioglfaa
set_option maxRecDepth 100000
set_option linter.unusedVariables false
open Go Go.RowKit Sha

theorem pad_zeros64 (n r : Nat) (h : r = n % 128) : zeros 128 n < 128 ∧ (r + 1 + zeros 128 n) % 128 = 112 ∧ ∀ j, j < zeros 128 n → (r + 1 + j) % 128 ≠ 112 := by
  subst h
  unfold zeros
  refine ⟨by omega, by omega, fun j hj => by omega⟩
theorem pad64_eq (n : Nat) (hn : n ≤ 1000000) : padB 128 n = (128 : UInt8) :: (List.replicate (zeros 128 n + 8) 0 ++ bytesOf (8 * n) 8) := by
  unfold padB
  rw [bytes16 _ (by omega), ← List.append_assoc, List.replicate_append_replicate]
theorem ask64_eq (st : St) : k512.ask st = (blks 128 k512.step st.v (st.r ++ padB 128 st.n)).1.list.flatMap fun x => bytesOf x 8 := rfl
set_option maxRecDepth 100000 in
set_option maxHeartbeats 4000000 in
theorem sum64_any (p : Nat) (st : St) (w : World) (h : St64 w p st) (hn : st.n ≤ 900000) :
    Calls Try.prog 36 #[.pointer (some ⟨p, 0, none⟩)] w fun e w' => e = .returned (.string ⟨(k512.ask st).toArray⟩) ∧ Below w.heap.size w w' := by
  obtain ⟨O, r, hg, hr, hok, hl⟩ := h
  have lp := (Array.getElem?_eq_some_iff.1 hg).1
  obtain ⟨hz1, hz2, hz3⟩ := pad_zeros64 st.n st.r.length hl
  obtain ⟨Z, hZ⟩ : ∃ Z, Z = zeros 128 st.n := ⟨_, rfl⟩
  rw [← hZ] at hz1 hz2 hz3
  obtain ⟨W1, hW1⟩ : ∃ W1, W1 = w.alloc (.cells (hc64 1 st.v O r st.n) 98) := ⟨_, rfl⟩
  have hcl := shclone_any p _ _ _ r st.n w hg
  rw [show w.alloc (.cells (hcells _ _ _ r (st.n : Int)) 98) = W1 from hW1.symm] at hcl
  replace hcl := hcl.mono fun e w' ⟨a, b⟩ => (⟨a, b.symm⟩ : e = Ending.returned (.pointer (some ⟨w.heap.size, 0, none⟩)) ∧ W1 = w')
  have z1 : W1.heap.size = w.heap.size + 1 := by rw [hW1]; simp
  have g1 : Hs64 W1 w.heap.size st.v O r st.n := by rw [hW1]; exact heap_alloc_new _ _
  have gp : Hs64 W1 p st.v O r st.n := by rw [hW1]; exact (heap_alloc_old _ _ lp).trans hg
  have b1 : Below w.heap.size w W1 := by rw [hW1]; exact (Below.refl _ _).alloc (Nat.le_refl _) _
  have k17 := cell_of_row _ _ 17 _ _ _ g1
  simp [hc64, hcells] at k17
  have hrl : r.size = st.r.length := by rw [← size_list, hr]
  have hrb : st.r.length < 128 := by omega
  obtain ⟨cap, C, fr, hcv, hown⟩ := run_tobytes (P := Try.prog) 9 54 5 r Try.underlying9 Try.underlying54 Try.underlying5 (by omega) (w.heap.size + 1) W1 (by omega)
  rw [hr, hrl] at hown
  rw [hrl] at hcv
  have HCL := Box.mk hcl; have G1 := Box.mk g1; have GP := Box.mk gp; have B1 := Box.mk b1; have HOWN := Box.mk hown; have HZ := Box.mk hZ; have HL := Box.mk hl; have HOK := Box.mk hok; have Z1 := Box.mk z1; have HRL := Box.mk hrl
  have hB0 : ∀ D, Below (w.heap.size + 1) W1 ((W1.alloc (.cells C 5 fr)).alloc D).drew := fun D => (((Below.refl _ _).alloc (by omega) _).alloc (by simp; omega) _).drew
  have hsz0 : ∀ D, w.heap.size + 1 ≤ ((W1.alloc (.cells C 5 fr)).alloc D).drew.heap.size := fun D => by simp; omega
  have hc0 : ∀ (A : Obj) (y : Value), ((W1.alloc A).alloc (.cells #[y] 5)).drew.cell? ⟨W1.heap.size + 1, 0, none⟩ = some y := fun A y => by
    have := heap_alloc_new (W1.alloc A) (.cells #[y] 5)
    rw [World.size_alloc] at this
    exact (cell_of_row (W1.alloc A |>.alloc _) _ 0 _ _ _ this)
  have HB0 := Box.mk hB0; have HSZ0 := Box.mk hsz0; have HC0 := Box.mk hc0
  clear hB0 hsz0 hc0
  have HZ2 := Box.mk hz2; have HZ3 := Box.mk hz3
  clear hcl g1 gp b1 hown hZ hl hok hW1 hg hr z1 hz2 hz3 hrl
  go_enter Try.func36, Try.ntmps36
  go_wp2_with (first
    | (go_at_call 51; refine HCL.out.mono ?_; rintro e w' ⟨rfl, rfl⟩)
    | (at_builtin; refine wpList_app1 (w0 := W1) rfl (.tmp 15) (.tmp 16) 54 rfl (w.heap.size + 1) 5 (.int .u8 0) 1 Try.underlying54 (by kernel_rfl) rfl (.slice (some ⟨W1.heap.size, 0, none⟩) st.r.length cap) st.r.length (st.r.map byv) rfl (HOWN.out.alloc _).drew (HB0.out _) (HSZ0.out _) (W1.heap.size + 1) (.int .u8 128) rfl (HC0.out _ _) rfl (by omega) (by omega) ?_))
  intro v1 w1 hown1 hbel1 hsz1 _ hnn1
  have HO1 := Box.mk hown1; have HB1 := Box.mk hbel1; have HNN1 := Box.mk hnn1; have HSZ1 := Box.mk hsz1
  clear hown1 hbel1 hnn1 hsz1 HOWN HCL hcv k17 HC0 HB0 HSZ0
  obtain ⟨g1, cap1, rfl, _⟩ := HO1.out.cells HNN1.out
  clear HNN1
  go_wp2_with fail
  go_loopw [4] (fun b wr => ∃ N g cap : Nat, st.r.length + 1 ≤ N ∧ N ≤ st.r.length + 1 + Z ∧ b = .slice (some ⟨g, 0, none⟩) N cap ∧ Own wr (w.heap.size + 1) 5 b N ((rowS st (N - st.r.length - 1) 0).map byv) ∧ Below (w.heap.size + 1) W1 wr ∧ w.heap.size + 1 ≤ wr.heap.size) (fun b _ => match b with | .slice _ n _ => 1000 - n | _ => 0)
  case atStart => exact ⟨_, g1, cap1, Nat.le_refl _, by omega, rfl, by have := HO1.out; simpa [rowS, byv] using this, HB1.out, HSZ1.out⟩
  case round =>
    clear HO1 HB1 HSZ1
    obtain ⟨N, g, cap, hN1, hN2, rfl, hown, hbel, hsz⟩ := hrel
    have gp : Hs64 wr p st.v O r st.n := (hbel.block p (by have := Z1.out; omega)).trans GP.out
    have GPR := Box.mk gp; have HO := Box.mk hown; have HB := Box.mk hbel
    clear gp hown hbel
    obtain ⟨q, hq⟩ : ∃ q, q = N % 128 := ⟨_, rfl⟩
    have m1 : (N : Int).tmod 128 = (q : Int) := by rw [Int.tmod_eq_emod_of_nonneg (by omega)]; omega
    have m2 : IntKind.i64.wrap (q : Int) = (q : Int) := by rw [IntKind.wrap_i64]; omega
    have m3 : (128 : Int).tdiv 8 = 16 := by decide
    have m4 : IntKind.i64.wrap 16 = 16 := by rw [IntKind.wrap_i64]; omega
    have m5 : IntKind.i64.wrap (128 - 16) = 112 := by rw [IntKind.wrap_i64]; omega
    by_cases hlt : N < st.r.length + 1 + Z
    · have hne : q ≠ 112 := by
        have := HZ3.out (N - st.r.length - 1) (by omega)
        rw [show st.r.length + 1 + (N - st.r.length - 1) = N from by omega] at this
        rw [hq]; exact this
      have hneB : ((q : Int) != 112) = true := by simp; omega
      clear hne
      have HQ := Box.mk hq; clear hq
      go_wp2_with fail
      go_quiet ((go_at_call 52; exact quiet_calls (long64_any p _ _ _ _ _ GPR.out)))
      obtain ⟨wq, hwq⟩ : ∃ W : World, W = wr.drewN nq := ⟨_, rfl⟩
      rw [← hwq]
      have ho2 : Own wq (w.heap.size + 1) 5 (.slice (some ⟨g, 0, none⟩) N cap) N ((rowS st (N - st.r.length - 1) 0).map byv) := by rw [hwq]; exact HO.out.drewN _
      have hb2 : Below (w.heap.size + 1) W1 wq := by rw [hwq]; exact bdrewN HB.out _
      have hs2 : w.heap.size + 1 ≤ wq.heap.size := by rw [hwq]; exact hsz
      have HO2 := Box.mk ho2; have HB2 := Box.mk hb2; have HS2 := Box.mk hs2
      clear ho2 hb2 hs2 hwq
      go_wp2_with (at_builtin; refine wpList_app1 (w0 := W1) rfl (.tmp 30) (.tmp 31) 54 rfl (w.heap.size + 1) 5 (.int .u8 0) 1 Try.underlying54 (by kernel_rfl) rfl (.slice (some ⟨g, 0, none⟩) N cap) N ((rowS st (N - st.r.length - 1) 0).map byv) rfl (HO2.out.alloc _) (HB2.out.alloc HS2.out _) (by have := HS2.out; simp; omega) wq.heap.size (.int .u8 0) rfl (cell_new _ _ _) rfl (by omega) (by omega) ?_)
      intro v2 w2 hown2 hbel2 hsz2 _ hnn2
      obtain ⟨g2, cap2, rfl, _⟩ := hown2.cells hnn2
      have HO3 := Box.mk hown2; have HB3 := Box.mk hbel2; have HSZ3 := Box.mk hsz2
      clear hown2 hbel2 hnn2 hsz2 HO HB HO2 HB2 HS2
      go_wp2
      refine ⟨⟨N + 1, g2, cap2, by omega, by omega, rfl, ?_, HB3.out, HSZ3.out⟩, ?_⟩
      · have := HO3.out
        rw [show N + 1 - st.r.length - 1 = N - st.r.length - 1 + 1 from by omega]
        simpa [rowS, byv, List.replicate_succ'] using this
      · show 1000 - (N + 1) < 1000 - N
        omega
    · have hNe : N = st.r.length + 1 + Z := by omega
      have hneB : ((q : Int) != 112) = false := by
        have := HZ2.out; rw [← hNe] at this; rw [hq, this]; decide
      rw [show N - st.r.length - 1 = Z from by omega] at HO
      have HNE := Box.mk hNe
      clear hq hNe
      go_wp2_with fail
      go_quiet ((go_at_call 52; exact quiet_calls (long64_any p _ _ _ _ _ GPR.out)))
      obtain ⟨wq, hwq⟩ : ∃ W : World, W = wr.drewN nq := ⟨_, rfl⟩
      rw [← hwq]
      have ho2 : Own wq (w.heap.size + 1) 5 (.slice (some ⟨g, 0, none⟩) N cap) N ((rowS st Z 0).map byv) := by rw [hwq]; exact HO.out.drewN _
      have hb2 : Below (w.heap.size + 1) W1 wq := by rw [hwq]; exact bdrewN HB.out _
      have hs2 : w.heap.size + 1 ≤ wq.heap.size := by rw [hwq]; exact hsz
      have gq : Hs64 wq p st.v O r st.n := by rw [hwq]; exact GPR.out
      have k0 := cell_of_row _ _ 0 _ _ _ gq
      have k18 := cell_of_row _ _ 18 _ _ _ gq
      simp [hc64, hcells] at k0 k18
      have HO2 := Box.mk ho2; have HB2 := Box.mk hb2; have HS2 := Box.mk hs2
      clear ho2 hb2 hs2 hwq gq HO HB GPR hsz m1 m2 m3 m4 m5 hneB
      have hw64 : IntKind.u64.wrap (st.n : Int) = (st.n : Int) := by rw [IntKind.wrap_u64]; omega
      go_wp2_with (go_at_call 53; refine (mul8_any st.n (by omega) _).mono ?_; rintro e w' ⟨rfl, rfl⟩)
      clear k0 k18 hw64
      obtain ⟨L, hL⟩ : ∃ L : Nat, L = 8 * st.n := ⟨_, rfl⟩
      have hLI : 8 * (st.n : Int) = (L : Int) := by omega
      rw [hLI]
      have HLL := Box.mk hL; clear hL hLI
      go_loopw [4, 7] (fun b k wr => ∃ m g cap : Nat, m ≤ 8 ∧ k = .int .i64 (56 - 8 * (m : Int)) ∧ b = .slice (some ⟨g, 0, none⟩) (N + m) cap ∧ Own wr (w.heap.size + 1) 5 b (N + m) ((rowS st (Z + m) 0).map byv) ∧ Below (w.heap.size + 1) W1 wr ∧ w.heap.size + 1 ≤ wr.heap.size) (fun _ k _ => (intOf k + 8).toNat)
      case atStart => exact ⟨0, _, _, by omega, rfl, rfl, HO2.out, HB2.out, HS2.out⟩
      case round =>
       clear HO2 HB2 HS2
       obtain ⟨m, g, cap, hm, rfl, rfl, hown, hbel, hsz⟩ := hrel
       by_cases hml : m < 8
       · obtain ⟨c, hc⟩ : ∃ c : Nat, c = 56 - 8 * m := ⟨_, rfl⟩
         have hcI : 56 - 8 * (m : Int) = (c : Int) := by omega
         have hc0 : (0 : Int) ≤ (c : Int) := by omega
         have hy0 : (0 : Int) / 2 ^ c % 256 = 0 := by rw [Int.zero_ediv]; rfl
         have HO := Box.mk hown; have HB := Box.mk hbel
         clear hown hbel hc
         go_wp2_with (at_builtin; refine wpList_app1 (w0 := W1) rfl (.tmp 51) (.tmp 56) 54 rfl (w.heap.size + 1) 5 (.int .u8 0) 1 Try.underlying54 (by kernel_rfl) rfl (.slice (some ⟨g, 0, none⟩) (N + m) cap) (N + m) ((rowS st (Z + m) 0).map byv) rfl (HO.out.alloc _) (HB.out.alloc hsz _) (by simp; omega) wr.heap.size (.int .u8 0) rfl (cell_new _ _ _) rfl (by omega) (by omega) ?_)
         intro v2 w2 hown2 hbel2 hsz2 _ hnn2
         obtain ⟨g2, cap2, rfl, _⟩ := hown2.cells hnn2
         have HO3 := Box.mk hown2; have HB3 := Box.mk hbel2; have HSZ3 := Box.mk hsz2
         clear hown2 hbel2 hnn2 hsz2 HO HB
         go_wp2
         refine ⟨⟨m + 1, g2, cap2, by omega, int_congr (by omega), rfl, ?_, HB3.out, HSZ3.out⟩, by simp [intOf]; omega⟩
         have := HO3.out
         rw [← Nat.add_assoc, ← Nat.add_assoc, rowS_zero]
         simpa [byv] using this
       · obtain rfl : m = 8 := by omega
         have HO2 := Box.mk hown; have HB2 := Box.mk hbel; have HS2 := Box.mk hsz
         clear hown hbel hsz
         rw [show (56 : Int) - 8 * ((8 : Nat) : Int) = -8 from by decide]
         go_wp2_with fail
         obtain ⟨wo, rfl⟩ : ∃ wo : World, wo = wr := ⟨_, rfl⟩

         go_loopw [4, 8] (fun b k wr => ∃ m g cap : Nat, m ≤ 8 ∧ k = .int .i64 (56 - 8 * (m : Int)) ∧ b = .slice (some ⟨g, 0, none⟩) (N + 8 + m) cap ∧ Own wr (w.heap.size + 1) 5 b (N + 8 + m) ((rowS st (Z + 8) m).map byv) ∧ Below (w.heap.size + 1) W1 wr ∧ w.heap.size + 1 ≤ wr.heap.size) (fun _ k _ => (intOf k + 8).toNat)
         case atStart => exact ⟨0, _, _, by omega, rfl, rfl, HO2.out, HB2.out, HS2.out⟩
         case round =>
           clear HO2 HB2 HS2
           obtain ⟨m, g, cap, hm, rfl, rfl, hown, hbel, hsz⟩ := hrel
           by_cases hml : m < 8
           · obtain ⟨c, hc⟩ : ∃ c : Nat, c = 56 - 8 * m := ⟨_, rfl⟩
             have hcI : 56 - 8 * (m : Int) = (c : Int) := by omega
             have hc0 : (0 : Int) ≤ (c : Int) := by omega
             have hy := shift_byte L c (8 - 1 - m) (by omega)
             have HY := Box.mk hy
             have HO := Box.mk hown; have HB := Box.mk hbel
             clear hown hbel hc hy
             go_wp2_with (at_builtin; refine wpList_app1 (w0 := W1) rfl (.tmp 62) (.tmp 67) 54 rfl (w.heap.size + 1) 5 (.int .u8 0) 1 Try.underlying54 (by kernel_rfl) rfl (.slice (some ⟨g, 0, none⟩) (N + 8 + m) cap) (N + 8 + m) ((rowS st (Z + 8) m).map byv) rfl (HO.out.alloc _) (HB.out.alloc hsz _) (by simp; omega) wr.heap.size (.int .u8 ((L : Int) / 2 ^ c % 256)) rfl (cell_new _ _ _) rfl (by omega) (by omega) ?_)
             intro v2 w2 hown2 hbel2 hsz2 _ hnn2
             obtain ⟨g2, cap2, rfl, _⟩ := hown2.cells hnn2
             have HO3 := Box.mk hown2; have HB3 := Box.mk hbel2; have HSZ3 := Box.mk hsz2
             clear hown2 hbel2 hnn2 hsz2 HO HB
             go_wp2
             refine ⟨⟨m + 1, g2, cap2, by omega, int_congr (by omega), rfl, ?_, HB3.out, HSZ3.out⟩, by simp [intOf]; omega⟩
             have := HO3.out
             rw [HY.out] at this
             rw [rowS_step _ _ _ hml, ← HLL.out]
             simpa [← Nat.add_assoc] using this
           · obtain rfl : m = 8 := by omega
             have hfull : rowS st (Z + 8) 8 = st.r ++ padB 128 st.n := by
               unfold rowS
               rw [pad64_eq _ (by omega), ← HZ.out, List.take_of_length_le (by rw [bytesOf_len]; exact Nat.le_refl _)]
             have hlen := hown.1
             rw [hfull] at hown hlen
             rw [List.length_map] at hlen
             obtain ⟨D, hD⟩ : ∃ D : ByteArray, D = ⟨(st.r ++ padB 128 st.n).toArray⟩ := ⟨_, rfl⟩
             have hcv := run_str_Own (P := Try.prog) (dst := 9) hown (by simp) Try.underlying54 Try.underlying5 Try.underlying9
             rw [← hD] at hcv
             have hDl : D.data.toList = st.r ++ padB 128 st.n := by rw [hD]
             have hgc : Hs64 wr w.heap.size st.v O r st.n := (hbel.block _ (by omega)).trans G1.out
             have hblk := blocks64_any w.heap.size st.v O r st.n D wr hgc HOK.out (by rw [← size_list, hDl, hlen]; have := HNE.out; omega)
             rw [hDl] at hblk
             have hask := ask64_eq st
             generalize blks 128 k512.step st.v (st.r ++ padB 128 st.n) = Q at hblk hask
             have HBLK := Box.mk hblk; have HASK := Box.mk hask; have HB := Box.mk hbel; have HZW := Box.mk hsz
             have gpr : Hs64 wr p st.v O r st.n := (hbel.block p (by have := Z1.out; omega)).trans GP.out
             have GPR := Box.mk gpr
             have hbv := bytes64_any Q.1
             unfold v8c64 u64v at hbv
             have HBV := Box.mk hbv
             clear hfull hlen hown hD hDl hgc hblk hask hbel gpr hbv
             go_wp2_with (first
               | (go_at_call 50; refine HBLK.out.mono ?_; rintro e w2 ⟨r2, rfl, _, hs2, hok2, hu2⟩; have gp2 := (hu2.block p ?hlt ?hne).trans GPR.out; (case hlt => have := HZW.out; omega); (case hne => simp; omega); have k0 := cell_of_row _ _ 0 _ _ _ gp2; have HS2 := Box.mk hs2; have HU2 := Box.mk hu2; have q1 := cell_of_row _ _ 9 _ _ _ hs2; have q2 := cell_of_row _ _ 10 _ _ _ hs2; have q3 := cell_of_row _ _ 11 _ _ _ hs2; have q4 := cell_of_row _ _ 12 _ _ _ hs2; have q5 := cell_of_row _ _ 13 _ _ _ hs2; have q6 := cell_of_row _ _ 14 _ _ _ hs2; have q7 := cell_of_row _ _ 15 _ _ _ hs2; have q8 := cell_of_row _ _ 16 _ _ _ hs2; simp [hc64, hcells, u64v, u64v] at k0 q1 q2 q3 q4 q5 q6 q7 q8; clear hs2 hu2 gp2 hok2)
               | (go_at_call 55; refine (HBV.out _).mono ?_; rintro e w3 ⟨rfl, hb3⟩; have HB3 := Box.mk hb3; clear hb3))
             go_ret
             refine ⟨by rw [HASK.out]; rfl, ?_⟩
             have h1 := B1.out.trans (HB.out.mono (by omega))
             have h2 := Upd.below h1 HU2.out (by simp) h1.size
             exact h2.trans (HB3.out.mono h2.size)

end Go.Proofs.Ytopiopomioglfaa
namespace Go.Proofs.Ytopiopomioglfaa
set_option maxRecDepth 100000
set_option linter.unusedVariables false
open Go Go.RowKit Sha

def kd (k : Int) : Sha.Kd := if k = 0 then k256 else k512
theorem kd_B (k : Int) : 0 < (kd k).B := by unfold kd; split <;> decide
def Kind (k : Int) : Prop := k = 0 ∨ k = 1
/-- The hash at p has had the bytes l. -/
def HasB (k : Int) (w : World) (p : Nat) (l : List UInt8) : Prop := (k = 0 ∧ St32 w p (k256.at l)) ∨ (k = 1 ∧ St64 w p (k512.at l))
theorem HasB.lt {k : Int} {w : World} {p : Nat} {l : List UInt8} (h : HasB k w p l) : p < w.heap.size := by
  rcases h with ⟨_, h⟩ | ⟨_, h⟩
  · exact h.lt
  · exact h.lt
theorem HasB.keep {k : Int} {w w' : World} {p : Nat} {l : List UInt8} (h : HasB k w p l) (hk : w'.heap[p]? = w.heap[p]?) : HasB k w' p l := by
  rcases h with ⟨a, h⟩ | ⟨a, h⟩
  · exact .inl ⟨a, h.keep hk⟩
  · exact .inr ⟨a, h.keep hk⟩
theorem HasB.below {k : Int} {w w' : World} {p : Nat} {l : List UInt8} (h : HasB k w p l) (hb : Below w.heap.size w w') : HasB k w' p l := h.keep (hb.block p h.lt)
theorem HasB.upd {k : Int} {w w' : World} {p q : Nat} {l : List UInt8} (h : HasB k w p l) (hb : Upd [q] w w') (hne : p ≠ q) : HasB k w' p l := h.keep (hb.block p h.lt (by simpa using hne))
/-- The sum of bytes. -/
def sumS (k : Int) (l : List UInt8) : ByteArray := ⟨((kd k).sum l).toArray⟩
theorem sumS_size (k : Int) (l : List UInt8) (hk : Kind k) : ((sumS k l).size : Int) = 32 + 32 * k := by
  have e : (sumS k l).size = ((kd k).sum l).length := by rw [← size_list]; rfl
  have h : ∀ (n : Nat) (v : V8), (v.list.flatMap fun x => bytesOf x n).length = 8 * n := by
    intro n v
    simp only [V8.list, List.flatMap_cons, List.flatMap_nil, List.length_append, bytesOf_len, List.length_nil]
    omega
  rw [e]
  unfold Sha.Kd.sum
  rw [h]
  rcases hk with rfl | rfl
  · decide
  · decide
theorem newB_any (k : Int) (hk : Kind k) (w : World) : Calls Try.prog 34 #[.int .i64 k] w fun e w' => ∃ p, e = .returned (.tuple #[.pointer (some ⟨p, 0, none⟩), .int .i64 0]) ∧ w.heap.size ≤ p ∧ HasB k w' p [] ∧ Below w.heap.size w w' := by
  rcases hk with rfl | rfl
  · exact (new32_any w).mono fun e w' ⟨p, he, hp, hs, hb⟩ => ⟨p, he, hp, .inl ⟨rfl, by rw [Sha.Kd.at_nil]; exact hs⟩, hb⟩
  · exact (new64_any w).mono fun e w' ⟨p, he, hp, hs, hb⟩ => ⟨p, he, hp, .inr ⟨rfl, by rw [Sha.Kd.at_nil]; exact hs⟩, hb⟩
theorem cloneB_any (k : Int) (p : Nat) (l : List UInt8) (w : World) (h : HasB k w p l) : Calls Try.prog 51 #[.pointer (some ⟨p, 0, none⟩)] w fun e w' => ∃ q, e = .returned (.pointer (some ⟨q, 0, none⟩)) ∧ w.heap.size ≤ q ∧ HasB k w' q l ∧ Below w.heap.size w w' := by
  rcases h with ⟨a, h⟩ | ⟨a, h⟩
  · exact (clone32_any p _ w h).mono fun e w' ⟨he, hs, hb⟩ => ⟨_, he, Nat.le_refl _, .inl ⟨a, hs⟩, hb⟩
  · exact (clone64_any p _ w h).mono fun e w' ⟨he, hs, hb⟩ => ⟨_, he, Nat.le_refl _, .inr ⟨a, hs⟩, hb⟩
theorem writeB_any (k : Int) (p : Nat) (l : List UInt8) (s : ByteArray) (w : World) (h : HasB k w p l) (hs : s.size ≤ 500000) (hl : l.length ≤ 500000) :
    Calls Try.prog 35 #[.pointer (some ⟨p, 0, none⟩), .string s] w fun e w' => e = .returned (.tuple #[]) ∧ HasB k w' p (l ++ s.data.toList) ∧ Upd [p] w w' := by
  rcases h with ⟨a, h⟩ | ⟨a, h⟩
  · exact (write32_any p _ s w h hs hl).mono fun e w' ⟨he, hs, hb⟩ => ⟨he, .inl ⟨a, by rw [← Sha.Kd.at_write (by decide)]; exact hs⟩, hb⟩
  · exact (write64_any p _ s w h hs hl).mono fun e w' ⟨he, hs, hb⟩ => ⟨he, .inr ⟨a, by rw [← Sha.Kd.at_write (by decide)]; exact hs⟩, hb⟩
theorem sumB_any (k : Int) (p : Nat) (l : List UInt8) (w : World) (h : HasB k w p l) (hl : l.length ≤ 900000) :
    Calls Try.prog 36 #[.pointer (some ⟨p, 0, none⟩)] w fun e w' => e = .returned (.string (sumS k l)) ∧ Below w.heap.size w w' := by
  rcases h with ⟨rfl, h⟩ | ⟨rfl, h⟩
  · exact (sum32_any p _ w h hl).mono fun e w' ⟨he, hb⟩ => ⟨by rw [he, Sha.Kd.ask_at (by decide)]; rfl, hb⟩
  · exact (sum64_any p _ w h hl).mono fun e w' ⟨he, hb⟩ => ⟨by rw [he, Sha.Kd.ask_at (by decide)]; rfl, hb⟩
set_option maxHeartbeats 1000000 in
theorem oneB_any (k : Int) (hk : Kind k) (s : ByteArray) (hs : s.size ≤ 500000) (w : World) :
    Calls Try.prog 19 #[.int .i64 k, .string s] w fun e w' => e = .returned (.tuple #[.string (sumS k s.data.toList), .int .i64 0]) ∧ Below w.heap.size w w' := by
  have HN := Box.mk (newB_any k hk)
  have hl := size_list s
  have HL := Box.mk hl
  clear hl
  go_enter Try.func19, Try.ntmps19
  go_wp2_with fail
  refine (HN.out _).mono ?_
  rintro e w1 ⟨p, rfl, hp, hs1, hb1⟩
  have HS1 := Box.mk hs1; have HB1 := Box.mk hb1
  clear hs1 hb1 HN
  go_wp2_with fail
  refine (writeB_any k p [] s _ HS1.out hs (by simp)).mono ?_
  rintro e w2 ⟨rfl, hs2, hu2⟩
  rw [List.nil_append] at hs2
  have HS2 := Box.mk hs2; have HU2 := Box.mk hu2
  clear hs2 hu2
  go_wp2_with fail
  refine (sumB_any k p _ _ HS2.out (by have := HL.out; omega)).mono ?_
  rintro e w3 ⟨rfl, hb3⟩
  have HB3 := Box.mk hb3
  clear hb3
  go_wp2
  go_ret2
  have h2 := Upd.below HB1.out HU2.out (by simp; omega) HB1.out.size
  exact ⟨rfl, h2.trans (HB3.out.mono h2.size)⟩
theorem oneB_no (k : Int) (hk : ¬ Kind k) (s : ByteArray) (w : World) :
    Calls Try.prog 19 #[.int .i64 k, .string s] w fun e w' => e = .returned (.tuple #[.string ⟨#[]⟩, .int .i64 30]) ∧ w = w' := by
  have HN := Box.mk (fun w => shnew_no k w (fun e => hk (.inl e)) (fun e => hk (.inr e)))
  clear hk
  go_enter Try.func19, Try.ntmps19
  go_wp2_with fail
  refine (HN.out _).mono ?_
  rintro e w1 ⟨rfl, rfl⟩
  go_wp2
  go_ret2
  exact ⟨rfl, rfl⟩
end Go.Proofs.Ytopiopomioglfaa
namespace Go.Proofs.Ytopiopomioglfaa
set_option maxRecDepth 100000
set_option linter.unusedVariables false
open Go Go.RowKit Sha

set_option maxHeartbeats 4000000 in
theorem send_any (g q p bb cb : Nat) (F B : Int) (s : FS) (ws : WS) (page : List UInt8) (w : World) (hf : Fl 76 w p bb cb s) (hok : s.Ok) (h : Pa w q p F B) (hi : In s.n.length F B) (hw : Sw w g q ws page) (hws : ws.Ok B)
    (hp : Spl g q p bb cb) :
    Calls Try.prog 13 #[.pointer (some ⟨g, 0, none⟩)] w fun e w' => e = .returned (.int .i64 (ws.fin F B s).2.2) ∧ Fl 76 w' p bb cb (ws.fin F B s).1 ∧ (∃ pg, Sw w' g q (ws.fin F B s).2.1 pg) ∧ Upd [g, p, bb, cb] w w' := by
  obtain ⟨c0, c1, c2, c3⟩ := hw.at_.cells
  have f67 := hw.at_.free 67; have f66 := hw.at_.free 66
  obtain ⟨V, hV⟩ : ∃ V, V = ws.fin F B s := ⟨_, rfl⟩
  have HV := hV
  unfold WS.fin at HV
  rw [← hV]
  clear hV
  have HF := Box.mk hf; have HW := Box.mk hw; have SP := Box.mk hp
  by_cases he : ws.e = 0
  · rw [if_neg (by simpa using he)] at HV
    have heb : (ws.e != 0) = false := by simpa using he
    by_cases hn : ws.ended = true
    · rw [if_pos hn] at HV
      have HX := Box.mk HV
      rw [hn] at c2
      clear HV he hn hf hok h hi hw hws hp c0 c1 f67 f66
      obtain ⟨rfl⟩ := HX
      go_enter Try.func13, Try.ntmps13
      go_wp2
      go_ret
      exact ⟨rfl, HF.out, ⟨page, HW.out⟩, Upd.refl _ _⟩
    · have hn : ws.ended = false := by simpa using hn
      rw [if_neg (by rw [hn]; decide)] at HV
      obtain ⟨hr1, hr2⟩ := hws.run he
      have hr2 := hr2 hn
      have hcm := hws.came; have hal := hws.all
      have h3 := hi.hi; have h4 := hi.few; have h5 := hi.lo
      obtain ⟨came, hca⟩ : ∃ c, c = ws.came := ⟨_, rfl⟩
      rw [hn] at c2
      rw [← hca] at c1 hr1 hcm
      have SW0 : Box (Swr w g q page came false 0) := ⟨by have := hw.at_; rw [hn, he, ← hca] at this; exact this⟩
      have SW1 := Box.mk (SW0.out.set66 true)
      have hbd : (came : Int) ≤ 131072 := by omega
      by_cases hgt : ws.all.length > ws.made
      · rw [if_pos hgt] at HV
        have hd : decide (0 < (came : Int) % 64) = true := by rw [decide_eq_true_eq]; omega
        have hl : (ws.all.drop ws.made).length = ws.all.length - ws.made := List.length_drop ..
        have hpp := SP.out.p
        have WR := Box.mk (writes_any g q p bb cb F B s page came true 0 ws.made came (ws.all.drop ws.made) (w.setCell ⟨g, 66, none⟩ (.bool true)) (hf.upd ((Upd.refl [g] w).setCell (by simp) _) hpp.1 hpp.2.1 hpp.2.2.1) hok (h.upd ((Upd.refl [g] w).setCell (by simp) _) (by simp; exact SP.out.hn)) hi SW1.out SP.out.hg SP.out.hq (by rw [hl]; omega) (by omega) (by omega) (by omega) (by omega) (by rw [hl]; exact hw.pg he hn))
        generalize s.wpage F B ws.made (ws.all.drop ws.made) = r at HV WR
        obtain ⟨r1, r2⟩ := r
        dsimp only at HV WR
        have HX := Box.mk HV; have HCA := Box.mk hca
        clear HV he hn hf hok h hi hw hws hp c0 f67 hgt hl hpp hr1 hr2 hcm hal h3 h4 h5 hca
        go_enter Try.func13, Try.ntmps13
        go_wp2_with fail
        refine WR.out.mono ?_
        rintro e w4 ⟨rfl, f4, u4⟩
        have F4 := Box.mk f4; have SW4 := Box.mk (SW1.out.upd u4 SP.out.hg); have U4 := Box.mk (((Upd.refl [g, p, bb, cb] w).setCell (p := ⟨g, 66, none⟩) (by simp) (.bool true)).trans (u4.mono (T := [g, p, bb, cb]) (by simp)))
        obtain ⟨d0, d1, d2, d3⟩ := SW4.out.cells
        have g67 := SW4.out.free 67
        clear f4 u4 d0 d1 d2 WR
        go_wp2_with fail
        go_ret
        have hpp := SP.out.p
        rw [HX.out]
        refine ⟨rfl, F4.out.upd ((Upd.refl [g] w4).setCell (by simp) _) hpp.1 hpp.2.1 hpp.2.2.1, ⟨page, ?_, fun _ h => by cases h⟩, U4.out.setCell (by simp) _⟩
        have := SW4.out.set67 r2
        rw [HCA.out] at this
        exact this
      · rw [if_neg hgt] at HV
        have hd : decide (0 < (came : Int) % 64) = false := by rw [decide_eq_false_iff_not]; omega
        have HX := Box.mk HV; have HCA := Box.mk hca; have HE := Box.mk he
        clear HV he hn hf hok h hi hw hws hp c0 f67 hgt hr1 hr2 hcm hal h3 h4 h5 hca
        obtain ⟨rfl⟩ := HX
        obtain ⟨d0, d1, d2, d3⟩ := SW0.out.cells
        clear d0 d1 d2 c3
        go_enter Try.func13, Try.ntmps13
        go_wp2_with fail
        go_ret
        have hpp := SP.out.p
        refine ⟨rfl, HF.out.upd ((Upd.refl [g] w).setCell (by simp) _) hpp.1 hpp.2.1 hpp.2.2.1, ⟨page, ?_, fun _ h => by cases h⟩, (Upd.refl [g, p, bb, cb] w).setCell (by simp) _⟩
        have := SW1.out
        rw [HCA.out, ← HE.out] at this
        exact this
  · rw [if_pos he] at HV
    have heb : (ws.e != 0) = true := by rw [bne_iff_ne]; exact he
    have HX := Box.mk HV
    clear HV he hf hok h hi hw hws hp c0 c1 c2 f67 f66
    obtain ⟨rfl⟩ := HX
    go_enter Try.func13, Try.ntmps13
    go_wp2
    go_ret
    exact ⟨rfl, HF.out, ⟨page, HW.out⟩, Upd.refl _ _⟩

/-- Check. -/
def scheckV (s : FS) (F B : Int) (n : Int) (sum : ByteArray) : Int :=
  if (sreadV s F B n).2 ≠ 0 then (sreadV s F B n).2 else if (sumS 0 (sreadV s F B n).1.data.toList).toList = sum.toList then 0 else 242
theorem sread_size {s : FS} (hok : s.Ok) (F B n : Int) : (sreadV s F B n).1.size ≤ 131072 := by
  have h1 := hok.len; have h2 := hok.few
  unfold sreadV
  split
  · unfold preadV
    split
    · split
      · show (0 : Nat) ≤ _; omega
      · show ((s.b.drop _).take _).toArray.size ≤ _
        rw [List.size_toArray, List.length_take, List.length_drop]; omega
    · show (0 : Nat) ≤ _; omega
  · show (0 : Nat) ≤ _; omega
theorem scheck_any (q p bb cb : Nat) (F B : Int) (s : FS) (n : Int) (sum : ByteArray) (w : World) (hf : Fl 76 w p bb cb s) (hok : s.Ok) (h : Pa w q p F B) (hi : In s.n.length F B) (bn : -9223372036854775808 ≤ n ∧ n ≤ 9223372036854775807) :
    Calls Try.prog 20 #[.pointer (some ⟨q, 0, none⟩), .int .i64 n, .string sum] w fun e w' => e = .returned (.int .i64 (scheckV s F B n sum)) ∧ Below w.heap.size w w' := by
  have RD := Box.mk (sread_any q p bb cb F B s n w hf hok h hi bn)
  have SZ := sread_size hok F B n
  unfold scheckV
  generalize sreadV s F B n = V at RD SZ ⊢
  obtain ⟨S, x⟩ := V
  dsimp only at RD SZ ⊢
  have ON := Box.mk (fun w => oneB_any 0 (.inl rfl) S (by omega) w)
  generalize sumS 0 S.data.toList = T at ON ⊢
  clear hf hok h hi bn SZ
  by_cases hx : x = 0
  · subst hx
    rw [if_neg (by simp)]
    by_cases hT : T.toList = sum.toList
    · rw [if_pos hT]
      have hb : (T.toList != sum.toList) = false := by simpa using hT
      have hb2 : (T.toList == sum.toList) = true := by simpa using hT
      clear hT
      go_enter Try.func20, Try.ntmps20
      go_wp2_with fail
      refine RD.out.mono ?_
      rintro e w1 ⟨rfl, rfl⟩
      go_wp2_with fail
      refine (ON.out _).mono ?_
      rintro e w1 ⟨rfl, hb1⟩
      have HB := Box.mk hb1; clear hb1
      go_wp2_with fail
      go_ret
      exact ⟨rfl, HB.out⟩
    · rw [if_neg hT]
      have hb : (T.toList != sum.toList) = true := by rw [bne_iff_ne]; exact hT
      have hb2 : (T.toList == sum.toList) = false := by rw [beq_eq_false_iff_ne]; exact hT
      clear hT
      go_enter Try.func20, Try.ntmps20
      go_wp2_with fail
      refine RD.out.mono ?_
      rintro e w1 ⟨rfl, rfl⟩
      go_wp2_with fail
      refine (ON.out _).mono ?_
      rintro e w1 ⟨rfl, hb1⟩
      have HB := Box.mk hb1; clear hb1
      go_wp2_with fail
      go_ret
      exact ⟨rfl, HB.out⟩
  · have hxb : (x != 0) = true := by rw [bne_iff_ne]; exact hx
    rw [if_pos hx]
    clear hx
    go_enter Try.func20, Try.ntmps20
    go_wp2_with fail
    refine RD.out.mono ?_
    rintro e w1 ⟨rfl, rfl⟩
    go_wp2_with fail
    go_ret
    exact ⟨rfl, Below.refl _ _⟩
end Go.Proofs.Ytopiopomioglfaa
namespace Go.Proofs.Ytopiopomioglfaa
set_option maxRecDepth 100000
set_option linter.unusedVariables false
open Go Go.RowKit

theorem bit1 (o c m : UInt8) : (o &&& (c ||| m)) &&& ~~~o = 0 := by
  apply UInt8.toBitVec_inj.1; apply BitVec.eq_of_getElem_eq; intro i hi
  simp only [UInt8.toBitVec_and, UInt8.toBitVec_or, UInt8.toBitVec_not, BitVec.getElem_and, BitVec.getElem_or, BitVec.getElem_not]
  cases o.toBitVec[i] <;> simp
theorem bit2 (o c m : UInt8) : (o &&& c) &&& ~~~(o &&& (c ||| m)) = 0 := by
  apply UInt8.toBitVec_inj.1; apply BitVec.eq_of_getElem_eq; intro i hi
  simp only [UInt8.toBitVec_and, UInt8.toBitVec_or, UInt8.toBitVec_not, BitVec.getElem_and, BitVec.getElem_or, BitVec.getElem_not]
  cases o.toBitVec[i] <;> cases c.toBitVec[i] <;> simp
theorem bit3 (o m : UInt8) : o &&& ~~~(o ||| m) = 0 := by
  apply UInt8.toBitVec_inj.1; apply BitVec.eq_of_getElem_eq; intro i hi
  simp only [UInt8.toBitVec_and, UInt8.toBitVec_or, UInt8.toBitVec_not, BitVec.getElem_and, BitVec.getElem_or, BitVec.getElem_not]
  cases o.toBitVec[i] <;> simp
theorem bit4 (x : UInt8) : x &&& ~~~255 = 0 := by
  have : (~~~255 : UInt8) = 0 := by decide
  rw [this]; simp
theorem bit5 (o c : UInt8) : (o &&& c) &&& ~~~o = 0 := by
  apply UInt8.toBitVec_inj.1; apply BitVec.eq_of_getElem_eq; intro i hi
  simp only [UInt8.toBitVec_and, UInt8.toBitVec_not, BitVec.getElem_and, BitVec.getElem_not]
  cases o.toBitVec[i] <;> simp
theorem bit6 (o : UInt8) : o &&& ~~~o = 0 := by
  apply UInt8.toBitVec_inj.1; apply BitVec.eq_of_getElem_eq; intro i hi
  simp only [UInt8.toBitVec_and, UInt8.toBitVec_not, BitVec.getElem_and, BitVec.getElem_not]
  cases o.toBitVec[i] <;> simp
theorem andNot_u8 (a b : UInt8) : bits .andNot .u8 (a.toNat : Int) (b.toNat : Int) = ((a &&& ~~~b).toNat : Int) := by
  rw [u8_andNot_nat _ _ a.toNat_lt b.toNat_lt, UInt8.toNat_and]
  congr 2
  have : (~~~b).toNat = 255 - b.toNat := by
    rw [← UInt8.toNat_toBitVec, UInt8.toBitVec_not, BitVec.toNat_not]; rfl
  rw [this]

/-- Behind a torn step: each byte as it was, or as it would be, but what lies between, all of one byte (of one page). -/
def Tore (er : Bool) (was now all : List UInt8) : Prop :=
  ∃ K : Nat, ∀ (i : Nat) (o n a : UInt8), was[i]? = some o → now[i]? = some n → all[i]? = some a →
    n = o ∨ n = a ∨ ((if er then i / 64 else i) = K ∧ (if er then o &&& ~~~n = 0 ∧ n &&& ~~~a = 0 else n &&& ~~~o = 0 ∧ a &&& ~~~n = 0))

theorem tore_prog (b : List UInt8) (A : Nat) (l : List UInt8) (keep k' : Int) (mask m' : UInt8) :
    Tore false b (progBytes b A l true keep mask) (progBytes b A l false k' m') := by
  refine ⟨A + keep.toNat, fun i o n a ho hn ha => ?_⟩
  rw [progBytes_at, ho, Option.map_some] at hn ha
  cases hn; cases ha
  by_cases hA : A ≤ i
  · rw [if_pos hA, if_pos hA]
    cases hl : l[i - A]? with
    | none => left; rfl
    | some c =>
      simp only [progByte, true_or, if_true]
      by_cases h1 : ((i - A : Nat) : Int) < keep
      · right; left; rw [if_pos (Or.inr h1)]
      · rw [if_neg (by simp; omega)]
        by_cases h2 : ((i - A : Nat) : Int) = keep
        · rw [if_pos h2]
          right; right
          refine ⟨by simp; omega, ?_⟩
          rw [if_neg (by decide)]
          exact ⟨bit1 o c mask, bit2 o c mask⟩
        · left; rw [if_neg h2]
  · left; rw [if_neg hA]
theorem tore_erase (b : List UInt8) (K : Nat) (keep k' : Int) (mask m' : UInt8) :
    Tore true b (eraseUpto b (512 * K) 512 true keep mask) (eraseUpto b (512 * K) 512 false k' m') := by
  refine ⟨8 * K + keep.toNat, fun i o n a ho hn ha => ?_⟩
  rw [eraseUpto_at, ho, Option.map_some] at hn ha
  cases hn; cases ha
  by_cases hA : 512 * K ≤ i ∧ i < 512 * K + 512
  · rw [if_pos hA, if_pos hA]
    simp only [eraseByte, true_or, if_true]
    by_cases h1 : (((i - 512 * K) / 64 : Nat) : Int) < keep
    · right; left; rw [if_pos (Or.inr h1)]
    · rw [if_neg (by simp; omega)]
      by_cases h2 : (((i - 512 * K) / 64 : Nat) : Int) = keep
      · rw [if_pos h2]
        right; right
        exact ⟨by show i / 64 = _; omega, bit3 o mask, bit4 _⟩
      · left; rw [if_neg h2]
  · left; rw [if_neg hA]

/-- The next step is torn. -/
def FS.armed1 (s : FS) (keep : Int) (mask : UInt8) : FS := { s with armed := 1, keep := max 0 keep, mask := mask }
theorem FS.arm_one {s : FS} (h : s.Still) (keep : Int) (mask : UInt8) : s.arm 1 keep mask = (s.armed1 keep mask, 0) := by
  unfold FS.arm
  rw [if_neg (by rw [h.dead]; decide), if_neg (by decide)]; rfl

/-- What a call does to a flash of which the next step is torn (q), and to one of which none is (r). -/
structure TornCall (er : Bool) (s0 : FS) (q r : FS × Int) : Prop where
  none : (r.2 ≠ 0 ∨ r.1.steps = 0) → q.2 = r.2 ∧ q.1.dead = false ∧ q.1.b = s0.b
  some : r.2 = 0 → r.1.steps ≠ 0 → q.2 = 2 ∧ q.1.dead = true ∧ Tore er s0.b q.1.b r.1.b
  l1 : q.1.b.length = s0.b.length
  l2 : r.1.b.length = s0.b.length

theorem torn_prog {s : FS} (h : s.Still) (hs : s.steps = 0) (keep : Int) (mask : UInt8) (at_ : Int) (l : List UInt8) :
    TornCall false s ((s.armed1 keep mask).program at_ l) (s.program at_ l) := by
  have hd : (s.armed1 keep mask).dead = false := h.dead
  have hb : (s.armed1 keep mask).b = s.b := rfl
  by_cases c1 : onB s.b.length at_ l.length = false
  · have e1 : s.program at_ l = (s, 111) := by unfold FS.program; rw [if_neg (by rw [h.dead]; decide), if_pos c1]
    have e2 : (s.armed1 keep mask).program at_ l = (s.armed1 keep mask, 111) := by unfold FS.program; rw [if_neg (by rw [hd]; decide), hb, if_pos c1]
    rw [e1, e2]
    exact ⟨fun _ => ⟨rfl, h.dead, rfl⟩, fun h0 => absurd (show (111:Int) = 0 from h0) (by decide), rfl, rfl⟩
  · by_cases c2 : l = []
    · have e1 : s.program at_ l = (s, 0) := by unfold FS.program; rw [if_neg (by rw [h.dead]; decide), if_neg c1, if_pos c2]
      have e2 : (s.armed1 keep mask).program at_ l = (s.armed1 keep mask, 0) := by unfold FS.program; rw [if_neg (by rw [hd]; decide), hb, if_neg c1, if_pos c2]
      rw [e1, e2]
      exact ⟨fun _ => ⟨rfl, h.dead, rfl⟩, fun _ h0 => absurd hs h0, rfl, rfl⟩
    · by_cases c3 : at_ / 64 ≠ (at_ + l.length - 1) / 64
      · have e1 : s.program at_ l = (s, 112) := by unfold FS.program; rw [if_neg (by rw [h.dead]; decide), if_neg c1, if_neg c2, if_pos c3]
        have e2 : (s.armed1 keep mask).program at_ l = (s.armed1 keep mask, 112) := by unfold FS.program; rw [if_neg (by rw [hd]; decide), hb, if_neg c1, if_neg c2, if_pos c3]
        rw [e1, e2]
        exact ⟨fun _ => ⟨rfl, h.dead, rfl⟩, fun h0 => absurd (show (112:Int) = 0 from h0) (by decide), rfl, rfl⟩
      · have k := h.step
        have hg : (s.armed1 keep mask).goes = true := rfl
        have ht : toldI false = 0 := by unfold toldI; rfl
        have ht2 : toldI true = 2 := by unfold toldI; rfl
        have hst : s.step.steps = 1 := by simp only [FS.step, hs]; decide +kernel
        have e1 : s.program at_ l = ({ s.step with b := progBytes s.b at_.toNat l false s.keep s.mask }, 0) := by
          unfold FS.program; rw [if_neg (by rw [h.dead]; decide), if_neg c1, if_neg c2, if_neg c3, k.2, ht]
        have e2 : (s.armed1 keep mask).program at_ l = ({ (s.armed1 keep mask).step with b := progBytes s.b at_.toNat l true (max 0 keep) mask }, 2) := by
          unfold FS.program; rw [if_neg (by rw [hd]; decide), hb, if_neg c1, if_neg c2, if_neg c3, hg, ht2]; rfl
        rw [e1, e2]
        refine ⟨fun h0 => ?_, fun _ _ => ⟨rfl, rfl, ?_⟩, ?_, ?_⟩
        · exfalso
          rcases h0 with h0 | h0
          · exact h0 rfl
          · have h0 : s.step.steps = 0 := h0
            rw [hst] at h0; cases h0
        · exact tore_prog _ _ _ _ _ _ _
        · exact progBytes_length _ _ _ _ _ _
        · exact progBytes_length _ _ _ _ _ _
theorem torn_erase {s : FS} (h : s.Still) (hs : s.steps = 0) (keep : Int) (mask : UInt8) (at_ : Int) :
    TornCall true s ((s.armed1 keep mask).erase at_) (s.erase at_) := by
  have hd : (s.armed1 keep mask).dead = false := h.dead
  have hb : (s.armed1 keep mask).b = s.b := rfl
  have hn : (s.armed1 keep mask).n = s.n := rfl
  by_cases c1 : blkB s.n.length at_ = false
  · have e1 : s.erase at_ = (s, 111) := by unfold FS.erase; rw [if_neg (by rw [h.dead]; decide), if_pos c1]
    have e2 : (s.armed1 keep mask).erase at_ = (s.armed1 keep mask, 111) := by unfold FS.erase; rw [if_neg (by rw [hd]; decide), hn, if_pos c1]
    rw [e1, e2]
    exact ⟨fun _ => ⟨rfl, h.dead, rfl⟩, fun h0 => absurd (show (111:Int) = 0 from h0) (by decide), rfl, rfl⟩
  · have k := h.step
    have hg : (s.armed1 keep mask).goes = true := rfl
    have ht : toldI false = 0 := by unfold toldI; rfl
    have ht2 : toldI true = 2 := by unfold toldI; rfl
    have hst : s.step.steps = 1 := by simp only [FS.step, hs]; decide +kernel
    have e1 : s.erase at_ = ({ s.step with n := s.bump at_.toNat, b := eraseUpto s.b (512 * at_.toNat) 512 false s.keep s.mask }, 0) := by
      unfold FS.erase; rw [if_neg (by rw [h.dead]; decide), if_neg c1, k.2, ht]
    have e2 : (s.armed1 keep mask).erase at_ = ({ (s.armed1 keep mask).step with n := (s.armed1 keep mask).bump at_.toNat, b := eraseUpto s.b (512 * at_.toNat) 512 true (max 0 keep) mask }, 2) := by
      unfold FS.erase; rw [if_neg (by rw [hd]; decide), hn, if_neg c1, hg, ht2]; rfl
    rw [e1, e2]
    refine ⟨fun h0 => ?_, fun _ _ => ⟨rfl, rfl, ?_⟩, ?_, ?_⟩
    · exfalso
      rcases h0 with h0 | h0
      · exact h0 rfl
      · have h0 : s.step.steps = 0 := h0
        rw [hst] at h0; cases h0
    · exact tore_erase _ _ _ _ _ _
    · exact eraseUpto_length _ _ _ _ _ _
    · exact eraseUpto_length _ _ _ _ _ _
/-- The same of strings. -/
structure Tear3 (er : Bool) (K : Nat) (was now all : ByteArray) : Prop where
  z1 : now.size = was.size
  z2 : all.size = was.size
  at_ : ∀ (i : Nat) (h1 : i < was.size) (h2 : i < now.size) (h3 : i < all.size), now[i] = was[i] ∨ now[i] = all[i] ∨
    ((if er then i / 64 else i) = K ∧ (if er then was[i] &&& ~~~now[i] = 0 ∧ now[i] &&& ~~~all[i] = 0 else now[i] &&& ~~~was[i] = 0 ∧ all[i] &&& ~~~now[i] = 0))
theorem tear3 {er : Bool} {a b c : List UInt8} (h : Tore er a b c) (h1 : b.length = a.length) (h2 : c.length = a.length) : ∃ K, Tear3 er K ⟨a.toArray⟩ ⟨b.toArray⟩ ⟨c.toArray⟩ := by
  obtain ⟨K, h⟩ := h
  refine ⟨K, by show b.toArray.size = a.toArray.size; simpa using h1, by show c.toArray.size = a.toArray.size; simpa using h2, fun i g1 g2 g3 => ?_⟩
  have g1 : i < a.length := by have : i < a.toArray.size := g1; simpa using this
  have g2 : i < b.length := by have : i < b.toArray.size := g2; simpa using this
  have g3 : i < c.length := by have : i < c.toArray.size := g3; simpa using this
  exact h i a[i] b[i] c[i] (List.getElem?_eq_getElem _) (List.getElem?_eq_getElem _) (List.getElem?_eq_getElem _)
end Go.Proofs.Ytopiopomioglfaa
