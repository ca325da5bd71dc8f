/- SHA-2: blocks of words of 64 bits. SHA-2: the state of a sum that goes on; New, Write, Sum: words of 64 bits. SHA-2: the state of a sum that goes on; New, Write, Sum: words of 64 bits. SHA-2: the program's hashes, for both kinds, by the bytes that they have; One. Numbers in words of 64 bits and in bytes, the lowest first. Nothing of the program. The order as a number; bytes modulo the order. Nothing of the program. -/
import Derived.Test.YtafhncpaoolljaaGreatM12
import Derived.Test.YtafhncpaoolljaaGreatM11
import Derived.Deep.RegionWith
import Derived.Test.YtafhncpaoolljaaGreatM02
import Derived.Test.YtafhncpaoolljaaGreatM01
namespace Go.Proofs.YtafhncpaoolljaaGreat
set_option maxRecDepth 100000
set_option linter.unusedVariables false
open Go Go.RowKit Sha
theorem ks512 : (K.take 80).map (· / 2 ^ 0) = k512.ks := by simp [k512]; rfl
theorem ks512_len : (K.take 80).length = 80 := by decide
theorem blockK64 (p gk g cap : Nat) (v O : V8) (rest : ByteArray) (size : Int) (l : List UInt8) (w : World) (h : Hs64 w p v O rest size) (hv : v.Ok 64)
   (hin : ∀ j x, (wordsOf 8 16 l)[j]? = some x → w.cell? ⟨g, j, none⟩ = some (u64v x)) (hkc : w.heap[gk]? = some (.cells kcells 144 (0, 0))) :
   Calls Tryz.prog 120 #[.pointer (some ⟨p, 9, none⟩), .slice (some ⟨g, 0, none⟩) 16 cap, .slice (some ⟨gk, 0, none⟩) 80 80, .agg (shl sh512), .int .i64 64] w fun e w' => e = .returned (.tuple #[]) ∧
     Hs64 w' p (k512.step v l) O rest size ∧ (k512.step v l).Ok 64 ∧ Upd [p] w w' := by
 have b := block64_any p g gk 80 cap 1 v O rest size (K.take 80) (wordsOf 8 16 l) sh512 w hv sh512_ok (wordsOf_len _ _ _) (by rw [ks512_len]; omega) (wordsOf_lt 8 16 l) (fun x hx => K_lt x (List.mem_of_mem_take hx)) h hin (fun j x hj => kcell j x w gk hkc 80 hj)
 rw [ks512_len, ks512] at b
 exact b.mono fun e w' ⟨he, hs, hu⟩ => ⟨he, hs, plus_ok _ _ _, hu⟩
theorem blockZ64 (p gk g cap : Nat) (v O : V8) (rest : ByteArray) (size : Int) (l : List UInt8) (w w1 : World) (h : Hs64 w p v O rest size) (hv : v.Ok 64) (hkc : w.heap[gk]? = some (.cells kcells 144 (0, 0)))
   (hb : Below w.heap.size w w1) (hin : ∀ j x, (wordsOf 8 16 l)[j]? = some x → w1.cell? ⟨g, j, none⟩ = some (u64v x)) :
   Calls Tryz.prog 120 #[.pointer (some ⟨p, 9, none⟩), .slice (some ⟨g, 0, none⟩) 16 cap, .slice (some ⟨gk, 0, none⟩) 80 80, .agg (shl sh512), .int .i64 64] (w1.alloc (.cells (shl sh512) 151)) fun e w' => e = .returned (.tuple #[]) ∧
     Hs64 w' p (k512.step v l) O rest size ∧ (k512.step v l).Ok 64 ∧ Upd [p] w w' := by
 have hz := hb.size
 have l1 := (Array.getElem?_eq_some_iff.1 h).1
 have l2 := (Array.getElem?_eq_some_iff.1 hkc).1
 refine (blockK64 p gk g cap v O rest size l _ ?_ hv ?_ ?_).mono fun e w' ⟨he, hs, hok, hu⟩ => ⟨he, hs, hok, ((Upd.of_below hb).alloc _).trans hu⟩
 · unfold Hs64; rw [heap_alloc_old _ _ (by omega), hb.block p l1]; exact h
 · intro j x hj
   have := hin j x hj
   rw [World.cell?_of_block (w := w1) (a := ⟨g, j, none⟩) (heap_alloc_old _ _ (World.block_lt_of_cell? _ _ this))]; exact this
 · rw [heap_alloc_old _ _ (by omega), hb.block gk l2]; exact hkc
set_option maxRecDepth 100000 in
set_option maxHeartbeats 4000000 in
theorem blocks64_any (p : Nat) (v O : V8) (rest : ByteArray) (size : Int) (s : ByteArray) (w : World) (h : Hs64 w p v O rest size) (hv : v.Ok 64) (hsz : s.size ≤ 1000000) :
   Calls Tryz.prog 83 #[.pointer (some ⟨p, 0, none⟩), .string s] w fun e w' => ∃ r : ByteArray, e = .returned (.string r) ∧ r.data.toList = (blks 128 k512.step v s.data.toList).2 ∧
     Hs64 w' p (blks 128 k512.step v s.data.toList).1 O rest size ∧ (blks 128 k512.step v s.data.toList).1.Ok 64 ∧ Upd [p] w w' := by
 have lp := (Array.getElem?_eq_some_iff.1 h).1
 have hz : ∀ w, (zeroValue 144).run Tryz.prog w = .ok (.agg z80) w := fun _ => by kernel_rfl
 have h1 : kcells.all (·.oneCell') = true := by kernel_rfl
 have hn := heap_alloc_new (w.alloc (.cells kcells 144)) (.cells z80 144)
 rw [World.size_alloc] at hn
 have hst : Hs64 ((w.alloc (.cells kcells 144)).alloc (.cells kcells 144)) p v O rest size := by
   unfold Hs64; rw [heap_alloc_old _ _ (by simp; omega), heap_alloc_old _ _ lp]; exact h
 have hkc : ((w.alloc (.cells kcells 144)).alloc (.cells kcells 144)).heap[w.heap.size + 1]? = some (.cells kcells 144 (0, 0)) := by
   have := heap_alloc_new (w.alloc (.cells kcells 144)) (.cells kcells 144)
   rwa [World.size_alloc] at this
 have hu0 : Upd [p] w ((w.alloc (.cells kcells 144)).alloc (.cells kcells 144)) := ((Upd.refl _ _).alloc _).alloc _
 have H1 := Box.mk h1; have HN := Box.mk hn; have HST := Box.mk hst; have HKC := Box.mk hkc; have HU0 := Box.mk hu0
 clear h1 hn hst hkc hu0 h
 have hsr : ((w.alloc (.cells kcells 144)).alloc (.cells z80 144)).setRow (w.heap.size + 1) kcells = (w.alloc (.cells kcells 144)).alloc (.cells kcells 144) := by
   have := World.setRow_alloc_new (w.alloc (.cells kcells 144)) z80 kcells 144
   rwa [World.size_alloc] at this
 have HSR := Box.mk hsr; clear hsr
 have lp1 : p < w.heap.size + 2 := by omega
 obtain ⟨f, hf⟩ : ∃ f, f = k512.step := ⟨_, rfl⟩
 have HF := Box.mk hf
 rw [← hf]
 clear hf
 go_enter Tryz.func83, Tryz.ntmps83
 go_wp2_with (first
   | ((with_reducible refine (rounds_any _).mono ?_); rintro e w' ⟨rfl, rfl⟩)
   | ((with_reducible refine wpList_store_row rfl 144 (.tmp 5) (.tmp 6) rfl (w.heap.size + 1) kcells ?_ ?_ 144 z80 HN.out ?_ ?_ H1.out ?_); rfl; rfl; kernel_rfl; rfl))
 rw [HSR.out]
 go_frame
 clear hz H1 HN HSR
 go_loopw [1] (fun sv wr => ∃ (m : Nat) (sm : ByteArray), sv = .string sm ∧ sm.data.toList = (run 128 f m v s.data.toList).2 ∧ m * 128 ≤ s.data.toList.length ∧ Hs64 wr p (run 128 f m v s.data.toList).1 O rest size ∧ (run 128 f m v s.data.toList).1.Ok 64 ∧
     wr.heap[w.heap.size + 1]? = some (.cells kcells 144 (0, 0)) ∧ Upd [p] w wr ∧ w.heap.size + 1 < wr.heap.size) (fun sv _ => match sv with | .string s => s.size | _ => 0)
 case atStart => exact ⟨0, s, rfl, rfl, by omega, HST.out, hv, HKC.out, HU0.out, by simp⟩
 case round =>
   clear HST HKC HU0
   obtain ⟨m, sm, rfl, hsm, hm, hs, hok, hkc, hu, hz2⟩ := hrel
   have hsl : sm.size = s.data.toList.length - m * 128 := by rw [← size_list, hsm, run_len _ _ _ _ _ hm]
   have HSL := Box.mk hsl; clear hsl
   have hszm : sm.size ≤ s.size := by
     rw [← size_list, hsm, run_len _ _ _ _ _ hm, size_list]; omega
   have k0 := cell_of_row _ _ 0 _ _ _ hs
   simp [hc64, hcells] at k0
   have HS := Box.mk hs; have HKC := Box.mk hkc; have HU := Box.mk hu; have HOK := Box.mk hok; have HSM := Box.mk hsm; have HM := Box.mk hm
   clear hs hkc hu hok hsm hm
   by_cases hlt : 128 ≤ sm.size
   · have hltI : (128 : Int) ≤ (sm.size : Int) := by omega
     have r1 := run_one 128 f m v s.data.toList
     have R1 := Box.mk r1; clear r1
     generalize hvm : (run 128 f m v s.data.toList).1 = vm at HS HOK R1
     generalize hlm : (run 128 f m v s.data.toList).2 = lm at HSM R1
     clear hvm hlm
     have e1 := extract_take sm 128
     have e1s : (sm.extract 0 128).size = 128 := by simp; omega
     have E1 := Box.mk e1; have E1S := Box.mk e1s
     clear e1 e1s
     go_wp2_with ((with_reducible refine (long64_any p _ _ _ _ _ HS.out).mono ?_); rintro e w' ⟨rfl, rfl⟩)
     go_region_with (first
       | (go_at_call 85; refine (long64_any p vm O rest size _ ?hs1).mono ?_; (case hs1 => exact HS.out); rintro e w' ⟨rfl, rfl⟩)
       | (go_at_call 121; refine (read64_any (sm.extract 0 128) E1S.out _).mono ?_; rintro e w1 ⟨g, cap, rfl, hgl, hcells, hb1⟩; have HC1 := Box.mk hcells; have HB1 := Box.mk hb1; clear hcells hb1)
       | (go_at_call 122; refine (s512_any _).mono ?_; rintro e w2 ⟨rfl, rfl⟩)
       | (go_at_call 120; refine (blockZ64 p (w.heap.size + 1) g cap vm O rest size (sm.extract 0 128).data.toList wr.drew w1 ?h1 ?h2 ?h3 ?h4 ?h5).mono ?_; (case h4 => exact HB1.out); (case h1 => exact HS.out); (case h2 => exact HOK.out); (case h3 => exact HKC.out); (case h5 => exact HC1.out); rintro e w4 ⟨rfl, hs4, hok4, hu4⟩; have HS4 := Box.mk hs4; have HOK4 := Box.mk hok4; have HU4 := Box.mk hu4; clear hs4 hok4 hu4))
     go_wp2_with ((with_reducible refine (long64_any p _ _ _ _ _ HS4.out).mono ?_); rintro e w' ⟨rfl, rfl⟩)
     have hu4 : Upd [p] wr w4 := (Upd.refl [p] wr).drew.trans HU4.out
     have hz4 := hu4.size
     refine ⟨⟨m + 1, sm.extract 128 sm.size, rfl, ?_, ?_, ?_, ?_, ?_, HU.out.trans hu4, by omega⟩, ?_⟩
     · rw [R1.out, extract_drop _ _ _ rfl, HSM.out]
     · have := HSL.out; rw [Nat.add_mul]; omega
     · rw [R1.out, ← HSM.out, ← E1.out, HF.out]; exact HS4.out
     · rw [R1.out, ← HSM.out, ← E1.out, HF.out]; exact HOK4.out
     · exact (hu4.block _ hz2 (by simp; omega)).trans HKC.out
     · show (sm.extract 128 sm.size).size < sm.size
       simp; omega
   · have hltI : ¬ (128 : Int) ≤ (sm.size : Int) := by omega
     have hfin := run_blks (B := 128) (by omega) f m v s.data.toList HM.out (by rw [← HSM.out, size_list]; omega)
     have HFIN := Box.mk hfin
     clear hfin
     go_wp2_with ((with_reducible refine (long64_any p _ _ _ _ _ HS.out).mono ?_); rintro e w' ⟨rfl, rfl⟩)
     go_ret
     exact ⟨sm, rfl, by rw [HSM.out, HFIN.out], by rw [← HFIN.out]; exact HS.out, by rw [← HFIN.out]; exact HOK.out, HU.out⟩
open Go Go.RowKit Sha
def St64 (w : World) (p : Nat) (st : St) : Prop := ∃ (O : V8) (r : ByteArray), Hs64 w p st.v O r st.n ∧ r.data.toList = st.r ∧ st.v.Ok 64 ∧ st.r.length = st.n % 128
theorem k512_ok : k512.h.Ok 64 := ⟨by decide, by decide, by decide, by decide, by decide, by decide, by decide, by decide⟩
theorem new64_any (w : World) : Calls Tryz.prog 43 #[.int .i64 1] w fun e w' => ∃ p, e = .returned (.tuple #[.pointer (some ⟨p, 0, none⟩), .int .i64 0]) ∧ w.heap.size ≤ p ∧ St64 w' p k512.new ∧ Below w.heap.size w w' :=
 (new_loop 1 w (by simp)).mono fun _ _ ⟨p, he, hp, hg, hb⟩ => ⟨p, he, hp, ⟨_, _, hg, rfl, k512_ok, rfl⟩, hb⟩
set_option maxHeartbeats 1000000 in
theorem write64_any (p : Nat) (st : St) (s : ByteArray) (w : World) (h : St64 w p st) (hs : s.size ≤ 500000) (hn : st.n ≤ 500000) :
   Calls Tryz.prog 44 #[.pointer (some ⟨p, 0, none⟩), .string s] w fun e w' => e = .returned (.tuple #[]) ∧ St64 w' p (k512.write st s.data.toList) ∧ Upd [p] w w' := by
 obtain ⟨O, r, hg, hr, hok, hl⟩ := h
 have k18 := cell_of_row _ _ 18 _ _ _ hg
 have k17 := cell_of_row _ _ 17 _ _ _ hg
 have fz := fun j => frozen_of_row _ _ j _ _ hg
 have f17 := fz 17; have f18 := fz 18
 simp [hc64, hcells] at k18 k17
 have hg1 : Hs64 (w.setCell ⟨p, 18, none⟩ (.int .i64 ((st.n : Int) + (s.size : Int)))) p st.v O r ((st.n : Int) + (s.size : Int)) := by
   unfold Hs64; rw [heap_setCell_same _ _ _ _ _ _ hg]; rfl
 have hrs : (r ++ s).size ≤ 1000000 := by
   rw [ByteArray.size_append, ← size_list r, hr, hl]; omega
 have HCAT : Box (¬ 9223372036854775807 < r.size + s.size) := ⟨by rw [ByteArray.size_append] at hrs; omega⟩
 have hra : (r ++ s).data.toList = st.r ++ s.data.toList := by rw [← hr]; simp
 have hbl := blks_rest (B := 128) (by omega) k512.step st.v (st.r ++ s.data.toList)
 have hb := blocks64_any p st.v O r ((st.n : Int) + (s.size : Int)) (r ++ s) _ hg1 hok hrs
 rw [hra] at hb
 have hw : ∀ q, blks 128 k512.step st.v (st.r ++ s.data.toList) = q → k512.write st s.data.toList = ⟨q.1, q.2, st.n + s.size⟩ := by
   intro q hq; subst hq; unfold Sha.Kd.write; rw [size_list]; rfl
 have hw := hw _ rfl
 rw [hw]
 generalize blks 128 k512.step st.v (st.r ++ s.data.toList) = q at hb hbl ⊢
 have HB := Box.mk hb; have HBL := Box.mk hbl; have HL := Box.mk hl; have HG := Box.mk hg
 clear hb hbl hl hg hw hra hrs hg1 hr hok fz
 have b1 : (0 : Int) ≤ (st.n : Int) + (s.size : Int) := by omega
 have hcat : ¬ 9223372036854775807 < r.size + s.size := HCAT.out
 go_enter Tryz.func44, Tryz.ntmps44
 go_wp2_with ((with_reducible refine HB.out.mono ?_); rintro e w1 ⟨r1, rfl, hr1, hs1, hok1, hu1⟩; have HR1 := Box.mk hr1; have HS1 := Box.mk hs1; have HOK1 := Box.mk hok1; have HU1 := Box.mk hu1; have c17 := cell_of_row _ _ 17 _ _ _ hs1; have g17 := frozen_of_row _ _ 17 _ _ hs1; simp [hc64, hcells] at c17; clear hr1 hs1 hok1 hu1)
 go_end0
 refine ⟨rfl, ⟨O, r1, ?_, HR1.out, HOK1.out, ?_⟩, ?_⟩
 · have h1 : (w1.setCell ⟨p, 17, none⟩ (.string r1)).heap[p]? = some (.cells (hc64 1 q.1 O r1 ((st.n : Int) + (s.size : Int))) 115 (0, 0)) := by
     rw [heap_setCell_same _ _ _ _ _ _ HS1.out]; rfl
   exact h1
 · show q.2.length = (st.n + s.size) % 128
   rw [HBL.out, List.length_append, HL.out, size_list]; omega
 · exact (((Upd.refl [p] w).setCell (by simp) _).trans HU1.out).setCell (by simp) _
open Go Go.RowKit Sha
theorem pad_zeros64 (n r : Nat) (h : r = n % 128) : zeros 128 n < 128 ∧ (r + 1 + zeros 128 n) % 128 = 112 ∧ ∀ j, j < zeros 128 n → (r + 1 + j) % 128 ≠ 112 := by
 subst h
 unfold zeros
 refine ⟨by omega, by omega, fun j hj => by omega⟩
theorem pad64_eq (n : Nat) (hn : n ≤ 1000000) : padB 128 n = (128 : UInt8) :: (List.replicate (zeros 128 n + 8) 0 ++ bytesOf (8 * n) 8) := by
 unfold padB
 rw [bytes16 _ (by omega), ← List.append_assoc, List.replicate_append_replicate]
theorem ask64_eq (st : St) : k512.ask st = (blks 128 k512.step st.v (st.r ++ padB 128 st.n)).1.list.flatMap fun x => bytesOf x 8 := rfl
set_option maxRecDepth 100000 in
set_option maxHeartbeats 4000000 in
theorem sum64_any (p : Nat) (st : St) (w : World) (h : St64 w p st) (hn : st.n ≤ 900000) :
   Calls Tryz.prog 46 #[.pointer (some ⟨p, 0, none⟩)] w fun e w' => e = .returned (.string ⟨(k512.ask st).toArray⟩) ∧ Below w.heap.size w w' := by
 obtain ⟨O, r, hg, hr, hok, hl⟩ := h
 have lp := (Array.getElem?_eq_some_iff.1 hg).1
 obtain ⟨hz1, hz2, hz3⟩ := pad_zeros64 st.n st.r.length hl
 obtain ⟨Z, hZ⟩ : ∃ Z, Z = zeros 128 st.n := ⟨_, rfl⟩
 rw [← hZ] at hz1 hz2 hz3
 obtain ⟨W1, hW1⟩ : ∃ W1, W1 = w.alloc (.cells (hc64 1 st.v O r st.n) 115) := ⟨_, rfl⟩
 have hcl := shclone_any p _ _ _ r st.n w hg
 rw [show w.alloc (.cells (hcells _ _ _ r (st.n : Int)) 115) = W1 from hW1.symm] at hcl
 replace hcl := hcl.mono fun e w' ⟨a, b⟩ => (⟨a, b.symm⟩ : e = Ending.returned (.pointer (some ⟨w.heap.size, 0, none⟩)) ∧ W1 = w')
 have z1 : W1.heap.size = w.heap.size + 1 := by rw [hW1]; simp
 have g1 : Hs64 W1 w.heap.size st.v O r st.n := by rw [hW1]; exact heap_alloc_new _ _
 have gp : Hs64 W1 p st.v O r st.n := by rw [hW1]; exact (heap_alloc_old _ _ lp).trans hg
 have b1 : Below w.heap.size w W1 := by rw [hW1]; exact (Below.refl _ _).alloc (Nat.le_refl _) _
 have k17 := cell_of_row _ _ 17 _ _ _ g1
 simp [hc64, hcells] at k17
 have hrl : r.size = st.r.length := by rw [← size_list, hr]
 have hrb : st.r.length < 128 := by omega
 obtain ⟨cap, C, fr, hcv, hown⟩ := run_tobytes (P := Tryz.prog) 9 29 5 r Tryz.underlying9 Tryz.underlying29 Tryz.underlying5 (by omega) (w.heap.size + 1) W1 (by omega)
 rw [hr, hrl] at hown
 rw [hrl] at hcv
 have HCL := Box.mk hcl; have G1 := Box.mk g1; have GP := Box.mk gp; have B1 := Box.mk b1; have HOWN := Box.mk hown; have HZ := Box.mk hZ; have HL := Box.mk hl; have HOK := Box.mk hok; have Z1 := Box.mk z1; have HRL := Box.mk hrl
 have hB0 : ∀ D, Below (w.heap.size + 1) W1 ((W1.alloc (.cells C 5 fr)).alloc D).drew := fun D => (((Below.refl _ _).alloc (by omega) _).alloc (by simp; omega) _).drew
 have hsz0 : ∀ D, w.heap.size + 1 ≤ ((W1.alloc (.cells C 5 fr)).alloc D).drew.heap.size := fun D => by simp; omega
 have hc0 : ∀ (A : Obj) (y : Value), ((W1.alloc A).alloc (.cells #[y] 5)).drew.cell? ⟨W1.heap.size + 1, 0, none⟩ = some y := fun A y => by
   have := heap_alloc_new (W1.alloc A) (.cells #[y] 5)
   rw [World.size_alloc] at this
   exact (cell_of_row (W1.alloc A |>.alloc _) _ 0 _ _ _ this)
 have HB0 := Box.mk hB0; have HSZ0 := Box.mk hsz0; have HC0 := Box.mk hc0
 clear hB0 hsz0 hc0
 have HZ2 := Box.mk hz2; have HZ3 := Box.mk hz3
 clear hcl g1 gp b1 hown hZ hl hok hW1 hg hr z1 hz2 hz3 hrl
 go_enter Tryz.func46, Tryz.ntmps46
 go_wp2_with (first
   | (go_at_call 84; refine HCL.out.mono ?_; rintro e w' ⟨rfl, rfl⟩)
   | (at_builtin; refine wpList_app1 (w0 := W1) rfl (.tmp 15) (.tmp 16) 29 rfl (w.heap.size + 1) 5 (.int .u8 0) 1 Tryz.underlying29 (by kernel_rfl) rfl (.slice (some ⟨W1.heap.size, 0, none⟩) st.r.length cap) st.r.length (st.r.map byv) rfl (HOWN.out.alloc _).drew (HB0.out _) (HSZ0.out _) (W1.heap.size + 1) (.int .u8 128) rfl (HC0.out _ _) rfl (by omega) (by omega) ?_))
 intro v1 w1 hown1 hbel1 hsz1 _ hnn1
 have HO1 := Box.mk hown1; have HB1 := Box.mk hbel1; have HNN1 := Box.mk hnn1; have HSZ1 := Box.mk hsz1
 clear hown1 hbel1 hnn1 hsz1 HOWN HCL hcv k17 HC0 HB0 HSZ0
 obtain ⟨g1, cap1, rfl, _⟩ := HO1.out.cells HNN1.out
 clear HNN1
 go_wp2_with fail
 go_loopw [4] (fun b wr => ∃ N g cap : Nat, st.r.length + 1 ≤ N ∧ N ≤ st.r.length + 1 + Z ∧ b = .slice (some ⟨g, 0, none⟩) N cap ∧ Own wr (w.heap.size + 1) 5 b N ((rowS st (N - st.r.length - 1) 0).map byv) ∧ Below (w.heap.size + 1) W1 wr ∧ w.heap.size + 1 ≤ wr.heap.size) (fun b _ => match b with | .slice _ n _ => 1000 - n | _ => 0)
 case atStart => exact ⟨_, g1, cap1, Nat.le_refl _, by omega, rfl, by have := HO1.out; simpa [rowS, byv] using this, HB1.out, HSZ1.out⟩
 case round =>
   clear HO1 HB1 HSZ1
   obtain ⟨N, g, cap, hN1, hN2, rfl, hown, hbel, hsz⟩ := hrel
   have gp : Hs64 wr p st.v O r st.n := (hbel.block p (by have := Z1.out; omega)).trans GP.out
   have GPR := Box.mk gp; have HO := Box.mk hown; have HB := Box.mk hbel
   clear gp hown hbel
   obtain ⟨q, hq⟩ : ∃ q, q = N % 128 := ⟨_, rfl⟩
   have m1 : (N : Int).tmod 128 = (q : Int) := by rw [Int.tmod_eq_emod_of_nonneg (by omega)]; omega
   have m2 : IntKind.i64.wrap (q : Int) = (q : Int) := by rw [IntKind.wrap_i64]; omega
   have m3 : (128 : Int).tdiv 8 = 16 := by decide
   have m4 : IntKind.i64.wrap 16 = 16 := by rw [IntKind.wrap_i64]; omega
   have m5 : IntKind.i64.wrap (128 - 16) = 112 := by rw [IntKind.wrap_i64]; omega
   by_cases hlt : N < st.r.length + 1 + Z
   · have hne : q ≠ 112 := by
       have := HZ3.out (N - st.r.length - 1) (by omega)
       rw [show st.r.length + 1 + (N - st.r.length - 1) = N from by omega] at this
       rw [hq]; exact this
     have hneB : ((q : Int) != 112) = true := by simp; omega
     clear hne
     have HQ := Box.mk hq; clear hq
     go_wp2_with fail
     go_quiet ((go_at_call 85; exact quiet_calls (long64_any p _ _ _ _ _ GPR.out)))
     obtain ⟨wq, hwq⟩ : ∃ W : World, W = wr.drewN nq := ⟨_, rfl⟩
     rw [← hwq]
     have ho2 : Own wq (w.heap.size + 1) 5 (.slice (some ⟨g, 0, none⟩) N cap) N ((rowS st (N - st.r.length - 1) 0).map byv) := by rw [hwq]; exact HO.out.drewN _
     have hb2 : Below (w.heap.size + 1) W1 wq := by rw [hwq]; exact bdrewN HB.out _
     have hs2 : w.heap.size + 1 ≤ wq.heap.size := by rw [hwq]; exact hsz
     have HO2 := Box.mk ho2; have HB2 := Box.mk hb2; have HS2 := Box.mk hs2
     clear ho2 hb2 hs2 hwq
     go_wp2_with (at_builtin; refine wpList_app1 (w0 := W1) rfl (.tmp 30) (.tmp 31) 29 rfl (w.heap.size + 1) 5 (.int .u8 0) 1 Tryz.underlying29 (by kernel_rfl) rfl (.slice (some ⟨g, 0, none⟩) N cap) N ((rowS st (N - st.r.length - 1) 0).map byv) rfl (HO2.out.alloc _) (HB2.out.alloc HS2.out _) (by have := HS2.out; simp; omega) wq.heap.size (.int .u8 0) rfl (cell_new _ _ _) rfl (by omega) (by omega) ?_)
     intro v2 w2 hown2 hbel2 hsz2 _ hnn2
     obtain ⟨g2, cap2, rfl, _⟩ := hown2.cells hnn2
     have HO3 := Box.mk hown2; have HB3 := Box.mk hbel2; have HSZ3 := Box.mk hsz2
     clear hown2 hbel2 hnn2 hsz2 HO HB HO2 HB2 HS2
     go_wp2
     refine ⟨⟨N + 1, g2, cap2, by omega, by omega, rfl, ?_, HB3.out, HSZ3.out⟩, ?_⟩
     · have := HO3.out
       rw [show N + 1 - st.r.length - 1 = N - st.r.length - 1 + 1 from by omega]
       simpa [rowS, byv, List.replicate_succ'] using this
     · show 1000 - (N + 1) < 1000 - N
       omega
   · have hNe : N = st.r.length + 1 + Z := by omega
     have hneB : ((q : Int) != 112) = false := by
       have := HZ2.out; rw [← hNe] at this; rw [hq, this]; decide
     rw [show N - st.r.length - 1 = Z from by omega] at HO
     have HNE := Box.mk hNe
     clear hq hNe
     go_wp2_with fail
     go_quiet ((go_at_call 85; exact quiet_calls (long64_any p _ _ _ _ _ GPR.out)))
     obtain ⟨wq, hwq⟩ : ∃ W : World, W = wr.drewN nq := ⟨_, rfl⟩
     rw [← hwq]
     have ho2 : Own wq (w.heap.size + 1) 5 (.slice (some ⟨g, 0, none⟩) N cap) N ((rowS st Z 0).map byv) := by rw [hwq]; exact HO.out.drewN _
     have hb2 : Below (w.heap.size + 1) W1 wq := by rw [hwq]; exact bdrewN HB.out _
     have hs2 : w.heap.size + 1 ≤ wq.heap.size := by rw [hwq]; exact hsz
     have gq : Hs64 wq p st.v O r st.n := by rw [hwq]; exact GPR.out
     have k0 := cell_of_row _ _ 0 _ _ _ gq
     have k18 := cell_of_row _ _ 18 _ _ _ gq
     simp [hc64, hcells] at k0 k18
     have HO2 := Box.mk ho2; have HB2 := Box.mk hb2; have HS2 := Box.mk hs2
     clear ho2 hb2 hs2 hwq gq HO HB GPR hsz m1 m2 m3 m4 m5 hneB
     have hw64 : IntKind.u64.wrap (st.n : Int) = (st.n : Int) := by rw [IntKind.wrap_u64]; omega
     go_wp2_with (go_at_call 48; refine (mul8_any st.n (by omega) _).mono ?_; rintro e w' ⟨rfl, rfl⟩)
     clear k0 k18 hw64
     obtain ⟨L, hL⟩ : ∃ L : Nat, L = 8 * st.n := ⟨_, rfl⟩
     have hLI : 8 * (st.n : Int) = (L : Int) := by omega
     rw [hLI]
     have HLL := Box.mk hL; clear hL hLI
     go_loopw [4, 7] (fun b k wr => ∃ m g cap : Nat, m ≤ 8 ∧ k = .int .i64 (56 - 8 * (m : Int)) ∧ b = .slice (some ⟨g, 0, none⟩) (N + m) cap ∧ Own wr (w.heap.size + 1) 5 b (N + m) ((rowS st (Z + m) 0).map byv) ∧ Below (w.heap.size + 1) W1 wr ∧ w.heap.size + 1 ≤ wr.heap.size) (fun _ k _ => (intOf k + 8).toNat)
     case atStart => exact ⟨0, _, _, by omega, rfl, rfl, HO2.out, HB2.out, HS2.out⟩
     case round =>
      clear HO2 HB2 HS2
      obtain ⟨m, g, cap, hm, rfl, rfl, hown, hbel, hsz⟩ := hrel
      by_cases hml : m < 8
      · obtain ⟨c, hc⟩ : ∃ c : Nat, c = 56 - 8 * m := ⟨_, rfl⟩
        have hcI : 56 - 8 * (m : Int) = (c : Int) := by omega
        have hc0 : (0 : Int) ≤ (c : Int) := by omega
        have hy0 : (0 : Int) / 2 ^ c % 256 = 0 := by rw [Int.zero_ediv]; rfl
        have HO := Box.mk hown; have HB := Box.mk hbel
        clear hown hbel hc
        go_wp2_with (at_builtin; refine wpList_app1 (w0 := W1) rfl (.tmp 51) (.tmp 56) 29 rfl (w.heap.size + 1) 5 (.int .u8 0) 1 Tryz.underlying29 (by kernel_rfl) rfl (.slice (some ⟨g, 0, none⟩) (N + m) cap) (N + m) ((rowS st (Z + m) 0).map byv) rfl (HO.out.alloc _) (HB.out.alloc hsz _) (by simp; omega) wr.heap.size (.int .u8 0) rfl (cell_new _ _ _) rfl (by omega) (by omega) ?_)
        intro v2 w2 hown2 hbel2 hsz2 _ hnn2
        obtain ⟨g2, cap2, rfl, _⟩ := hown2.cells hnn2
        have HO3 := Box.mk hown2; have HB3 := Box.mk hbel2; have HSZ3 := Box.mk hsz2
        clear hown2 hbel2 hnn2 hsz2 HO HB
        go_wp2
        refine ⟨⟨m + 1, g2, cap2, by omega, int_congr (by omega), rfl, ?_, HB3.out, HSZ3.out⟩, by simp [intOf]; omega⟩
        have := HO3.out
        rw [← Nat.add_assoc, ← Nat.add_assoc, rowS_zero]
        simpa [byv] using this
      · obtain rfl : m = 8 := by omega
        have HO2 := Box.mk hown; have HB2 := Box.mk hbel; have HS2 := Box.mk hsz
        clear hown hbel hsz
        rw [show (56 : Int) - 8 * ((8 : Nat) : Int) = -8 from by decide]
        go_wp2_with fail
        obtain ⟨wo, rfl⟩ : ∃ wo : World, wo = wr := ⟨_, rfl⟩
        go_loopw [4, 8] (fun b k wr => ∃ m g cap : Nat, m ≤ 8 ∧ k = .int .i64 (56 - 8 * (m : Int)) ∧ b = .slice (some ⟨g, 0, none⟩) (N + 8 + m) cap ∧ Own wr (w.heap.size + 1) 5 b (N + 8 + m) ((rowS st (Z + 8) m).map byv) ∧ Below (w.heap.size + 1) W1 wr ∧ w.heap.size + 1 ≤ wr.heap.size) (fun _ k _ => (intOf k + 8).toNat)
        case atStart => exact ⟨0, _, _, by omega, rfl, rfl, HO2.out, HB2.out, HS2.out⟩
        case round =>
          clear HO2 HB2 HS2
          obtain ⟨m, g, cap, hm, rfl, rfl, hown, hbel, hsz⟩ := hrel
          by_cases hml : m < 8
          · obtain ⟨c, hc⟩ : ∃ c : Nat, c = 56 - 8 * m := ⟨_, rfl⟩
            have hcI : 56 - 8 * (m : Int) = (c : Int) := by omega
            have hc0 : (0 : Int) ≤ (c : Int) := by omega
            have hy := shift_byte L c (8 - 1 - m) (by omega)
            have HY := Box.mk hy
            have HO := Box.mk hown; have HB := Box.mk hbel
            clear hown hbel hc hy
            go_wp2_with (at_builtin; refine wpList_app1 (w0 := W1) rfl (.tmp 62) (.tmp 67) 29 rfl (w.heap.size + 1) 5 (.int .u8 0) 1 Tryz.underlying29 (by kernel_rfl) rfl (.slice (some ⟨g, 0, none⟩) (N + 8 + m) cap) (N + 8 + m) ((rowS st (Z + 8) m).map byv) rfl (HO.out.alloc _) (HB.out.alloc hsz _) (by simp; omega) wr.heap.size (.int .u8 ((L : Int) / 2 ^ c % 256)) rfl (cell_new _ _ _) rfl (by omega) (by omega) ?_)
            intro v2 w2 hown2 hbel2 hsz2 _ hnn2
            obtain ⟨g2, cap2, rfl, _⟩ := hown2.cells hnn2
            have HO3 := Box.mk hown2; have HB3 := Box.mk hbel2; have HSZ3 := Box.mk hsz2
            clear hown2 hbel2 hnn2 hsz2 HO HB
            go_wp2
            refine ⟨⟨m + 1, g2, cap2, by omega, int_congr (by omega), rfl, ?_, HB3.out, HSZ3.out⟩, by simp [intOf]; omega⟩
            have := HO3.out
            rw [HY.out] at this
            rw [rowS_step _ _ _ hml, ← HLL.out]
            simpa [← Nat.add_assoc] using this
          · obtain rfl : m = 8 := by omega
            have hfull : rowS st (Z + 8) 8 = st.r ++ padB 128 st.n := by
              unfold rowS
              rw [pad64_eq _ (by omega), ← HZ.out, List.take_of_length_le (by rw [bytesOf_len]; exact Nat.le_refl _)]
            have hlen := hown.1
            rw [hfull] at hown hlen
            rw [List.length_map] at hlen
            obtain ⟨D, hD⟩ : ∃ D : ByteArray, D = ⟨(st.r ++ padB 128 st.n).toArray⟩ := ⟨_, rfl⟩
            have hcv := run_str_Own (P := Tryz.prog) (dst := 9) hown (by simp) Tryz.underlying29 Tryz.underlying5 Tryz.underlying9
            rw [← hD] at hcv
            have hDl : D.data.toList = st.r ++ padB 128 st.n := by rw [hD]
            have hgc : Hs64 wr w.heap.size st.v O r st.n := (hbel.block _ (by omega)).trans G1.out
            have hblk := blocks64_any w.heap.size st.v O r st.n D wr hgc HOK.out (by rw [← size_list, hDl, hlen]; have := HNE.out; omega)
            rw [hDl] at hblk
            have hask := ask64_eq st
            generalize blks 128 k512.step st.v (st.r ++ padB 128 st.n) = Q at hblk hask
            have HBLK := Box.mk hblk; have HASK := Box.mk hask; have HB := Box.mk hbel; have HZW := Box.mk hsz
            have gpr : Hs64 wr p st.v O r st.n := (hbel.block p (by have := Z1.out; omega)).trans GP.out
            have GPR := Box.mk gpr
            have hbv := bytes64_any Q.1
            unfold v8c64 u64v at hbv
            have HBV := Box.mk hbv
            clear hfull hlen hown hD hDl hgc hblk hask hbel gpr hbv
            go_wp2_with (first
              | (go_at_call 83; refine HBLK.out.mono ?_; rintro e w2 ⟨r2, rfl, _, hs2, hok2, hu2⟩; have gp2 := (hu2.block p ?hlt ?hne).trans GPR.out; (case hlt => have := HZW.out; omega); (case hne => simp; omega); have k0 := cell_of_row _ _ 0 _ _ _ gp2; have HS2 := Box.mk hs2; have HU2 := Box.mk hu2; have q1 := cell_of_row _ _ 9 _ _ _ hs2; have q2 := cell_of_row _ _ 10 _ _ _ hs2; have q3 := cell_of_row _ _ 11 _ _ _ hs2; have q4 := cell_of_row _ _ 12 _ _ _ hs2; have q5 := cell_of_row _ _ 13 _ _ _ hs2; have q6 := cell_of_row _ _ 14 _ _ _ hs2; have q7 := cell_of_row _ _ 15 _ _ _ hs2; have q8 := cell_of_row _ _ 16 _ _ _ hs2; simp [hc64, hcells, u64v, u64v] at k0 q1 q2 q3 q4 q5 q6 q7 q8; clear hs2 hu2 gp2 hok2)
              | (go_at_call 87; refine (HBV.out _).mono ?_; rintro e w3 ⟨rfl, hb3⟩; have HB3 := Box.mk hb3; clear hb3))
            go_ret
            refine ⟨by rw [HASK.out]; rfl, ?_⟩
            have h1 := B1.out.trans (HB.out.mono (by omega))
            have h2 := Upd.below h1 HU2.out (by simp) h1.size
            exact h2.trans (HB3.out.mono h2.size)
open Go Go.RowKit Sha
def kd (k : Int) : Sha.Kd := if k = 0 then k256 else k512
def Kind (k : Int) : Prop := k = 0 ∨ k = 1
def HasB (k : Int) (w : World) (p : Nat) (l : List UInt8) : Prop := (k = 0 ∧ St32 w p (k256.at l)) ∨ (k = 1 ∧ St64 w p (k512.at l))
def sumS (k : Int) (l : List UInt8) : ByteArray := ⟨((kd k).sum l).toArray⟩
theorem sumS_size (k : Int) (l : List UInt8) (hk : Kind k) : ((sumS k l).size : Int) = 32 + 32 * k := by
 have e : (sumS k l).size = ((kd k).sum l).length := by rw [← size_list]; rfl
 have h : ∀ (n : Nat) (v : V8), (v.list.flatMap fun x => bytesOf x n).length = 8 * n := by
   intro n v
   simp only [V8.list, List.flatMap_cons, List.flatMap_nil, List.length_append, bytesOf_len, List.length_nil]
   omega
 rw [e]
 unfold Sha.Kd.sum
 rw [h]
 rcases hk with rfl | rfl
 · decide
 · decide
theorem newB_any (k : Int) (hk : Kind k) (w : World) : Calls Tryz.prog 43 #[.int .i64 k] w fun e w' => ∃ p, e = .returned (.tuple #[.pointer (some ⟨p, 0, none⟩), .int .i64 0]) ∧ w.heap.size ≤ p ∧ HasB k w' p [] ∧ Below w.heap.size w w' := by
 rcases hk with rfl | rfl
 · exact (new32_any w).mono fun e w' ⟨p, he, hp, hs, hb⟩ => ⟨p, he, hp, .inl ⟨rfl, by rw [Sha.Kd.at_nil]; exact hs⟩, hb⟩
 · exact (new64_any w).mono fun e w' ⟨p, he, hp, hs, hb⟩ => ⟨p, he, hp, .inr ⟨rfl, by rw [Sha.Kd.at_nil]; exact hs⟩, hb⟩
theorem writeB_any (k : Int) (p : Nat) (l : List UInt8) (s : ByteArray) (w : World) (h : HasB k w p l) (hs : s.size ≤ 500000) (hl : l.length ≤ 500000) :
   Calls Tryz.prog 44 #[.pointer (some ⟨p, 0, none⟩), .string s] w fun e w' => e = .returned (.tuple #[]) ∧ HasB k w' p (l ++ s.data.toList) ∧ Upd [p] w w' := by
 rcases h with ⟨a, h⟩ | ⟨a, h⟩
 · exact (write32_any p _ s w h hs hl).mono fun e w' ⟨he, hs, hb⟩ => ⟨he, .inl ⟨a, by rw [← Sha.Kd.at_write (by decide)]; exact hs⟩, hb⟩
 · exact (write64_any p _ s w h hs hl).mono fun e w' ⟨he, hs, hb⟩ => ⟨he, .inr ⟨a, by rw [← Sha.Kd.at_write (by decide)]; exact hs⟩, hb⟩
theorem sumB_any (k : Int) (p : Nat) (l : List UInt8) (w : World) (h : HasB k w p l) (hl : l.length ≤ 900000) :
   Calls Tryz.prog 46 #[.pointer (some ⟨p, 0, none⟩)] w fun e w' => e = .returned (.string (sumS k l)) ∧ Below w.heap.size w w' := by
 rcases h with ⟨rfl, h⟩ | ⟨rfl, h⟩
 · exact (sum32_any p _ w h hl).mono fun e w' ⟨he, hb⟩ => ⟨by rw [he, Sha.Kd.ask_at (by decide)]; rfl, hb⟩
 · exact (sum64_any p _ w h hl).mono fun e w' ⟨he, hb⟩ => ⟨by rw [he, Sha.Kd.ask_at (by decide)]; rfl, hb⟩
set_option maxHeartbeats 1000000 in
theorem oneB_any (k : Int) (hk : Kind k) (s : ByteArray) (hs : s.size ≤ 500000) (w : World) :
   Calls Tryz.prog 27 #[.int .i64 k, .string s] w fun e w' => e = .returned (.tuple #[.string (sumS k s.data.toList), .int .i64 0]) ∧ Below w.heap.size w w' := by
 have HN := Box.mk (newB_any k hk)
 have hl := size_list s
 have HL := Box.mk hl
 clear hl
 go_enter Tryz.func27, Tryz.ntmps27
 go_wp2_with fail
 refine (HN.out _).mono ?_
 rintro e w1 ⟨p, rfl, hp, hs1, hb1⟩
 have HS1 := Box.mk hs1; have HB1 := Box.mk hb1
 clear hs1 hb1 HN
 go_wp2_with fail
 refine (writeB_any k p [] s _ HS1.out hs (by simp)).mono ?_
 rintro e w2 ⟨rfl, hs2, hu2⟩
 rw [List.nil_append] at hs2
 have HS2 := Box.mk hs2; have HU2 := Box.mk hu2
 clear hs2 hu2
 go_wp2_with fail
 refine (sumB_any k p _ _ HS2.out (by have := HL.out; omega)).mono ?_
 rintro e w3 ⟨rfl, hb3⟩
 have HB3 := Box.mk hb3
 clear hb3
 go_wp2
 go_ret2
 have h2 := Upd.below HB1.out HU2.out (by simp; omega) HB1.out.size
 exact ⟨rfl, h2.trans (HB3.out.mono h2.size)⟩
open Go Go.RowKit
def leNat : List UInt8 → Nat
 | [] => 0
 | b :: r => b.toNat + 256 * leNat r
theorem leNat_lt (l : List UInt8) : leNat l < 256 ^ l.length := by
 induction l with
 | nil => simp [leNat]
 | cons b r ih =>
   have := b.toNat_lt
   simp only [leNat, List.length_cons, Nat.pow_succ]; omega
theorem leNat_append (l r : List UInt8) : leNat (l ++ r) = leNat l + 256 ^ l.length * leNat r := by
 induction l with
 | nil => simp [leNat]
 | cons b l ih =>
   simp only [List.cons_append, leNat, List.length_cons, Nat.pow_succ, ih, Nat.mul_add, Nat.mul_comm (256 ^ l.length) 256, Nat.mul_assoc]; omega
theorem leNat_snoc (l : List UInt8) (c : UInt8) : leNat (l ++ [c]) = leNat l + 256 ^ l.length * c.toNat := by
 rw [leNat_append]; simp [leNat]
theorem take_snoc (s : ByteArray) (k : Nat) (h : k < s.size) : s.data.toList.take (k + 1) = s.data.toList.take k ++ [s[k]] := by
 rw [List.take_succ_eq_append_getElem (by simpa using h)]; rfl
def wcells (n c : Nat) : Array Value := ((List.range c).map fun j => Value.int .u64 (limb n j)).toArray
theorem wcells_get (n c j : Nat) (h : j < c) : (wcells n c)[j]? = some (.int .u64 (limb n j)) := by simp [wcells, h]
theorem limb_word (n b k j : Nat) (hn : n < 256 ^ k) (hb : b < 256) :
   limb (n + 256 ^ k * b) j = if j = k / 8 then ((n / 2 ^ (64 * j) % 18446744073709551616 ||| b * 2 ^ (8 * (k % 8)) : Nat) : Int) else limb n j := by
 have e256 : ∀ q, 256 ^ q = 2 ^ (8 * q) := fun q => by rw [Nat.pow_mul]
 have hk : 8 * k = 64 * (k / 8) + 8 * (k % 8) := by omega
 rw [e256] at hn ⊢
 rw [hk, Nat.pow_add] at hn ⊢
 generalize hq : k / 8 = q at hn ⊢
 generalize hr : k % 8 = r at hn ⊢
 have hr8 : r < 8 := by omega
 clear hk hq hr e256
 have hx : n / 2 ^ (64 * q) < 2 ^ (8 * r) := (Nat.div_lt_iff_lt_mul (Nat.two_pow_pos _)).2 (by rw [Nat.mul_comm]; exact hn)
 have h64 : b * 2 ^ (8 * r) + 2 ^ (8 * r) ≤ 2 ^ 64 := by
   have : (b + 1) * 2 ^ (8 * r) ≤ 256 * 2 ^ (56) := Nat.mul_le_mul (by omega) (Nat.pow_le_pow_right (by omega) (by omega))
   rw [Nat.add_mul] at this; omega
 unfold limb
 congr 1
 split
 · rename_i h; subst h
   have e : (n + 2 ^ (64 * j) * 2 ^ (8 * r) * b) / 2 ^ (64 * j) = n / 2 ^ (64 * j) + b * 2 ^ (8 * r) := by
     rw [Nat.mul_assoc, Nat.add_mul_div_left _ _ (Nat.two_pow_pos _), Nat.mul_comm b]
   rw [e, Nat.mod_eq_of_lt (a := n / 2 ^ (64 * j)) (by omega), Nat.or_comm, nat_join (8 * r) _ _ (Nat.mul_mod_left _ _) hx]
   generalize n / 2 ^ (64 * j) = x at hx ⊢
   generalize b * 2 ^ (8 * r) = y at h64 ⊢
   generalize 2 ^ (8 * r) = z at h64 hx
   rw [Nat.mod_eq_of_lt (by omega)]; omega
 · rename_i h
   rcases Nat.lt_or_gt_of_ne h with h | h
   · obtain ⟨d, hd⟩ : ∃ d, 64 * q = 64 * j + (64 + d) := ⟨64 * (q - j - 1), by omega⟩
     have e : n + 2 ^ (64 * q) * 2 ^ (8 * r) * b = n + 2 ^ (64 * j) * (2 ^ 64 * (2 ^ d * 2 ^ (8 * r) * b)) := by
       rw [hd, Nat.pow_add, Nat.pow_add]; simp only [Nat.mul_assoc]
     rw [e, Nat.add_mul_div_left _ _ (Nat.two_pow_pos _)]
     omega
   · have hle : 2 ^ (64 * q) * 2 ^ 64 ≤ 2 ^ (64 * j) := by rw [← Nat.pow_add]; exact Nat.pow_le_pow_right (by omega) (by omega)
     have h1 : 2 ^ (64 * q) * (b * 2 ^ (8 * r) + 2 ^ (8 * r)) ≤ 2 ^ (64 * q) * 2 ^ 64 := Nat.mul_le_mul (Nat.le_refl _) h64
     have h2 : n + 2 ^ (64 * q) * 2 ^ (8 * r) * b < 2 ^ (64 * q) * (b * 2 ^ (8 * r) + 2 ^ (8 * r)) := by
       rw [Nat.mul_add, Nat.mul_comm b, ← Nat.mul_assoc]; omega
     have h3 : n < 2 ^ (64 * j) := by
       have := Nat.le_add_right n (2 ^ (64 * q) * 2 ^ (8 * r) * b); omega
     rw [Nat.div_eq_of_lt (by omega), Nat.div_eq_of_lt h3]
theorem word_or (n b k : Nat) (hn : n < 256 ^ k) (hb : b < 256) :
   bits .or .u64 (limb n (k / 8)) (IntKind.u64.wrap (IntKind.u64.wrap (b : Int) * 2 ^ (8 * (k % 8)))) = limb (n + 256 ^ k * b) (k / 8) := by
 have hr : k % 8 < 8 := by omega
 have h64 : b * 2 ^ (8 * (k % 8)) < 18446744073709551616 := by
   have : b * 2 ^ (8 * (k % 8)) ≤ 255 * 2 ^ 56 := Nat.mul_le_mul (by omega) (Nat.pow_le_pow_right (by omega) (by omega))
   omega
 rw [limb_word n b k _ hn hb, if_pos rfl]
 have e : IntKind.u64.wrap (IntKind.u64.wrap (b : Int) * 2 ^ (8 * (k % 8))) = ((b * 2 ^ (8 * (k % 8)) : Nat) : Int) := by
   rw [IntKind.wrap_u64, IntKind.wrap_u64, Int.emod_eq_of_lt (a := (b : Int)) (by omega) (by omega)]
   rw [show ((2 : Int) ^ (8 * (k % 8))) = ((2 ^ (8 * (k % 8)) : Nat) : Int) from by simp, ← Int.natCast_mul]
   rw [Int.emod_eq_of_lt (by omega) (by omega)]
 rw [e]; unfold limb
 exact u64_or_nat _ _ (by omega) h64
theorem wcells_step (n b k c : Nat) (hn : n < 256 ^ k) (hb : b < 256) :
   (wcells n c).setIfInBounds (k / 8) (.int .u64 (limb (n + 256 ^ k * b) (k / 8))) = wcells (n + 256 ^ k * b) c := by
 apply Array.ext
 · simp [wcells]
 · intro i h1 h2
   rw [Array.getElem_setIfInBounds (by simpa using h1)]
   split
   · rename_i h; subst h; simp [wcells]
   · rename_i h; simp only [wcells, List.getElem_toArray, List.getElem_map, List.getElem_range]
     rw [limb_word n b k i hn hb, if_neg (by omega)]
def num (s : ByteArray) : Nat := leNat s.data.toList
def leList : Nat → Nat → List UInt8
 | 0, _ => []
 | k + 1, n => UInt8.ofNat (n % 256) :: leList k (n / 256)
theorem leList_length (k n : Nat) : (leList k n).length = k := by
 induction k generalizing n with
 | zero => rfl
 | succ k ih => simp [leList, ih]
theorem leNat_leList (k n : Nat) : leNat (leList k n) = n % 256 ^ k := by
 induction k generalizing n with
 | zero => simp [leList, leNat, Nat.mod_one]
 | succ k ih =>
   simp only [leList, leNat, ih]
   rw [Nat.pow_succ, Nat.mul_comm (256 ^ k) 256, Nat.mod_mul]
   simp
theorem leList_get (k n i : Nat) (h : i < k) : (leList k n)[i]? = some (UInt8.ofNat (n / 256 ^ i % 256)) := by
 induction k generalizing n i with
 | zero => omega
 | succ k ih =>
   cases i with
   | zero => simp [leList]
   | succ i => simp only [leList, List.getElem?_cons_succ]; rw [ih _ _ (by omega), Nat.div_div_eq_div_mul, Nat.pow_succ, Nat.mul_comm 256]
theorem leNat_inj : ∀ (l r : List UInt8), l.length = r.length → leNat l = leNat r → l = r
 | [], [], _, _ => rfl
 | [], _ :: _, h, _ => by simp at h
 | _ :: _, [], h, _ => by simp at h
 | a :: l, b :: r, h, e => by
   have ha := a.toNat_lt; have hb := b.toNat_lt
   simp only [leNat] at e
   have h1 : a.toNat = b.toNat := by omega
   have h2 : leNat l = leNat r := by omega
   rw [UInt8.toNat_inj.1 h1, leNat_inj l r (by simpa using h) h2]
def bcells (n k c : Nat) : Array Value := ((List.range c).map fun i => Value.int .u8 ((if i < k then n / 256 ^ i % 256 else 0 : Nat) : Int)).toArray
theorem bcells_step (n k c : Nat) : (bcells n k c).setIfInBounds k (.int .u8 ((n / 256 ^ k % 256 : Nat) : Int)) = bcells n (k + 1) c := by
 apply Array.ext
 · simp [bcells]
 · intro i h1 h2
   rw [Array.getElem_setIfInBounds (by simpa using h1)]
   simp only [bcells, List.getElem_toArray, List.getElem_map, List.getElem_range]
   split
   · rename_i h; subst h; simp
   · rename_i h
     by_cases hi : i < k
     · rw [if_pos hi, if_pos (by omega)]
     · rw [if_neg hi, if_neg (by omega)]
theorem bcells_all (n c : Nat) : bcells n c c = ((leList c n).map fun u => Value.int .u8 (u.toNat : Int)).toArray := by
 apply Array.ext'
 apply List.ext_getElem?
 intro i
 by_cases h : i < c
 · simp [bcells, h, leList_get c n i h]
 · simp [bcells, h, leList_length]
theorem byte_of (n k : Nat) : limb n (k / 8) / 2 ^ (8 * (k % 8)) % 256 = ((n / 256 ^ k % 256 : Nat) : Int) := by
 have e : (256 : Nat) ^ k = 2 ^ (64 * (k / 8)) * 2 ^ (8 * (k % 8)) := by
   rw [← Nat.pow_add, show (256 : Nat) = 2 ^ 8 from rfl, ← Nat.pow_mul]; congr 1; omega
 have hr : k % 8 < 8 := by omega
 rw [e, ← Nat.div_div_eq_div_mul]
 unfold limb
 rw [show ((2 : Int) ^ (8 * (k % 8))) = ((2 ^ (8 * (k % 8)) : Nat) : Int) from by simp, ← Int.natCast_ediv]
 generalize n / 2 ^ (64 * (k / 8)) = x
 generalize k % 8 = r at hr
 rcases (by omega : r = 0 ∨ r = 1 ∨ r = 2 ∨ r = 3 ∨ r = 4 ∨ r = 5 ∨ r = 6 ∨ r = 7) with rfl | rfl | rfl | rfl | rfl | rfl | rfl | rfl <;> simp <;> omega
def sbytes (n : Nat) : ByteArray := ⟨(leList 32 n).toArray⟩
open Go Go.RowKit
@[irreducible] def ordL : Nat := 7237005577332262213973186563042994240857116359379907606001950938285454250989
theorem num_lt (s : ByteArray) (c : Nat) (h : s.size ≤ 8 * c) : num s < 2 ^ (64 * c) := by
 have e : 2 ^ (64 * c) = 256 ^ (8 * c) := by rw [show (256 : Nat) = 2 ^ 8 from rfl, ← Nat.pow_mul]; congr 1; omega
 rw [e]
 exact Nat.lt_of_lt_of_le (leNat_lt _) (Nat.pow_le_pow_right (by omega) (by simpa using h))
def sc (n : Nat) : ByteArray := sbytes (n % ordL)
theorem num_sbytes (n : Nat) : num (sbytes n) = n % 256 ^ 32 := leNat_leList 32 n
theorem sbytes_size (n : Nat) : (sbytes n).size = 32 := leList_length 32 n
theorem bytes_ext {a b : ByteArray} (h : a.data.toList = b.data.toList) : a = b := by
 cases a; cases b; simpa using Array.toList_inj.1 h
theorem bytes_inj {a b : ByteArray} (hs : a.size = b.size) (h : num a = num b) : a = b :=
 bytes_ext (leNat_inj _ _ (by simpa using hs) h)
theorem beq_toList (a b : ByteArray) : (a.toList == b.toList) = decide (a = b) := by
 rw [ByteArray.toList_eq, ByteArray.toList_eq, Bool.eq_iff_iff, beq_iff_eq, decide_eq_true_iff]
 exact ⟨bytes_ext, fun h => by rw [h]⟩
theorem sbytes_num {s : ByteArray} (h : s.size = 32) : sbytes (num s) = s :=
 bytes_inj (by rw [sbytes_size, h]) (by rw [num_sbytes]; exact Nat.mod_eq_of_lt (by have := num_lt s 4 (by omega); omega))
theorem ordL_lt : ordL < 256 ^ 32 := by unfold ordL; omega
theorem ordL_pos : 0 < ordL := by unfold ordL; omega
theorem num_sc (n : Nat) : num (sc n) = n % ordL := by
 rw [sc, num_sbytes]; exact Nat.mod_eq_of_lt (Nat.lt_trans (Nat.mod_lt _ ordL_pos) ordL_lt)
theorem sc_size (n : Nat) : (sc n).size = 32 := sbytes_size _
theorem sc_num {s : ByteArray} (h : s.size = 32) : sc (num s) = s ↔ num s < ordL := by
 constructor
 · intro e; rw [← e, num_sc]; exact Nat.mod_lt _ ordL_pos
 · intro e; rw [sc, Nat.mod_eq_of_lt e, sbytes_num h]
end Go.Proofs.YtafhncpaoolljaaGreat
