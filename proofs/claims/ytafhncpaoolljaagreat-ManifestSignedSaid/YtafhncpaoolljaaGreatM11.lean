/- SHA-2: blocks of words of 32 bits. math/bits.Mul64: any two words. SHA-2: the state of a sum that goes on; New, Write, Sum: words of 32 bits. SHA-2: the state of a sum that goes on; New, Write, Sum: words of 32 bits. -/
import Derived.Test.YtafhncpaoolljaaGreatM08
import Derived.Test.YtafhncpaoolljaaGreatM10
import Derived.Deep.RegionWith
import Derived.Test.YtafhncpaoolljaaGreatRows
import Derived.Test.YtafhncpaoolljaaGreatM01
import Derived.Shelf.Bits.Mul64
import Derived.Test.YtafhncpaoolljaaGreatM02
namespace Go.Proofs.YtafhncpaoolljaaGreat
set_option maxRecDepth 100000
set_option linter.unusedVariables false
open Go Go.RowKit Sha
theorem Sha.run_one (B : Nat) (f : V8 → List UInt8 → V8) (m : Nat) (v : V8) (l : List UInt8) : run B f (m + 1) v l = (f (run B f m v l).1 ((run B f m v l).2.take B), (run B f m v l).2.drop B) := by
 rw [run_add]; rfl
theorem Sha.run_blks {B : Nat} (hB : 0 < B) (f : V8 → List UInt8 → V8) (m : Nat) (v : V8) (l : List UInt8) (h : m * B ≤ l.length) (h2 : (run B f m v l).2.length < B) : run B f m v l = blks B f v l := by
 rw [run_len _ _ _ _ _ h] at h2
 have : l.length / B = m := by
   rw [Nat.div_eq_iff hB]; omega
 unfold blks; rw [this]
theorem extract_take (s : ByteArray) (k : Nat) : (s.extract 0 k).data.toList = s.data.toList.take k := by simp [ByteArray.data_extract]
theorem extract_drop (s : ByteArray) (k n : Nat) (h : n = s.size) : (s.extract k n).data.toList = s.data.toList.drop k := by
 subst h
 simp only [ByteArray.data_extract, Array.toList_extract, List.extract_eq_take_drop]
 exact List.take_of_length_le (by simp)
theorem size_list (s : ByteArray) : s.data.toList.length = s.size := by simp
theorem plus_ok (W : Nat) (v u : V8) : (plus W v u).Ok W :=
 ⟨Nat.mod_lt _ (Nat.two_pow_pos _), Nat.mod_lt _ (Nat.two_pow_pos _), Nat.mod_lt _ (Nat.two_pow_pos _), Nat.mod_lt _ (Nat.two_pow_pos _), Nat.mod_lt _ (Nat.two_pow_pos _), Nat.mod_lt _ (Nat.two_pow_pos _), Nat.mod_lt _ (Nat.two_pow_pos _), Nat.mod_lt _ (Nat.two_pow_pos _)⟩
theorem kcell (j x : Nat) (w : World) (g : Nat) (h : w.heap[g]? = some (.cells kcells 144 (0, 0))) (n : Nat) (hj : (K.take n)[j]? = some x) : w.cell? ⟨g, j, none⟩ = some (u64v x) := by
 rw [cell_of_row _ _ _ _ _ _ h]
 unfold kcells
 rw [List.getElem?_toArray, List.getElem?_map]
 have : K[j]? = some x := by rw [List.getElem?_take] at hj; split at hj <;> simp_all
 rw [this]; rfl
theorem K_lt : ∀ x ∈ K, x < 2 ^ 64 := by decide
theorem ks256 : (K.take 64).map (· / 2 ^ 32) = k256.ks := by rfl
theorem ks256_len : (K.take 64).length = 64 := by decide
theorem blockK32 (p gk g cap : Nat) (v O : V8) (rest : ByteArray) (size : Int) (l : List UInt8) (w : World) (h : Hs32 w p v O rest size) (hv : v.Ok 32)
   (hin : ∀ j x, (wordsOf 4 16 l)[j]? = some x → w.cell? ⟨g, j, none⟩ = some (u32v x)) (hkc : w.heap[gk]? = some (.cells kcells 144 (0, 0))) :
   Calls Tryz.prog 117 #[.pointer (some ⟨p, 1, none⟩), .slice (some ⟨g, 0, none⟩) 16 cap, .slice (some ⟨gk, 0, none⟩) 64 80, .agg (shl sh256), .int .i64 32] w fun e w' => e = .returned (.tuple #[]) ∧
     Hs32 w' p (k256.step v l) O rest size ∧ (k256.step v l).Ok 32 ∧ Upd [p] w w' := by
 have b := block32_any p g gk 80 cap 0 v O rest size (K.take 64) (wordsOf 4 16 l) sh256 w hv sh256_ok (wordsOf_len _ _ _) (by rw [ks256_len]; omega) (wordsOf_lt 4 16 l) (fun x hx => K_lt x (List.mem_of_mem_take hx)) h hin (fun j x hj => kcell j x w gk hkc 64 hj)
 rw [ks256_len, ks256] at b
 exact b.mono fun e w' ⟨he, hs, hu⟩ => ⟨he, hs, plus_ok _ _ _, hu⟩
theorem blockZ32 (p gk g cap : Nat) (v O : V8) (rest : ByteArray) (size : Int) (l : List UInt8) (w w1 : World) (h : Hs32 w p v O rest size) (hv : v.Ok 32) (hkc : w.heap[gk]? = some (.cells kcells 144 (0, 0)))
   (hb : Below w.heap.size w w1) (hin : ∀ j x, (wordsOf 4 16 l)[j]? = some x → w1.cell? ⟨g, j, none⟩ = some (u32v x)) :
   Calls Tryz.prog 117 #[.pointer (some ⟨p, 1, none⟩), .slice (some ⟨g, 0, none⟩) 16 cap, .slice (some ⟨gk, 0, none⟩) 64 80, .agg (shl sh256), .int .i64 32] (w1.alloc (.cells (shl sh256) 151)) fun e w' => e = .returned (.tuple #[]) ∧
     Hs32 w' p (k256.step v l) O rest size ∧ (k256.step v l).Ok 32 ∧ Upd [p] w w' := by
 have hz := hb.size
 have l1 := (Array.getElem?_eq_some_iff.1 h).1
 have l2 := (Array.getElem?_eq_some_iff.1 hkc).1
 refine (blockK32 p gk g cap v O rest size l _ ?_ hv ?_ ?_).mono fun e w' ⟨he, hs, hok, hu⟩ => ⟨he, hs, hok, ((Upd.of_below hb).alloc _).trans hu⟩
 · unfold Hs32; rw [heap_alloc_old _ _ (by omega), hb.block p l1]; exact h
 · intro j x hj
   have := hin j x hj
   rw [World.cell?_of_block (w := w1) (a := ⟨g, j, none⟩) (heap_alloc_old _ _ (World.block_lt_of_cell? _ _ this))]; exact this
 · rw [heap_alloc_old _ _ (by omega), hb.block gk l2]; exact hkc
set_option maxRecDepth 100000 in
set_option maxHeartbeats 4000000 in
theorem blocks32_any (p : Nat) (v O : V8) (rest : ByteArray) (size : Int) (s : ByteArray) (w : World) (h : Hs32 w p v O rest size) (hv : v.Ok 32) (hsz : s.size ≤ 1000000) :
   Calls Tryz.prog 83 #[.pointer (some ⟨p, 0, none⟩), .string s] w fun e w' => ∃ r : ByteArray, e = .returned (.string r) ∧ r.data.toList = (blks 64 k256.step v s.data.toList).2 ∧
     Hs32 w' p (blks 64 k256.step v s.data.toList).1 O rest size ∧ (blks 64 k256.step v s.data.toList).1.Ok 32 ∧ Upd [p] w w' := by
 have lp := (Array.getElem?_eq_some_iff.1 h).1
 have hz : ∀ w, (zeroValue 144).run Tryz.prog w = .ok (.agg z80) w := fun _ => by kernel_rfl
 have h1 : kcells.all (·.oneCell') = true := by kernel_rfl
 have hn := heap_alloc_new (w.alloc (.cells kcells 144)) (.cells z80 144)
 rw [World.size_alloc] at hn
 have hst : Hs32 ((w.alloc (.cells kcells 144)).alloc (.cells kcells 144)) p v O rest size := by
   unfold Hs32; rw [heap_alloc_old _ _ (by simp; omega), heap_alloc_old _ _ lp]; exact h
 have hkc : ((w.alloc (.cells kcells 144)).alloc (.cells kcells 144)).heap[w.heap.size + 1]? = some (.cells kcells 144 (0, 0)) := by
   have := heap_alloc_new (w.alloc (.cells kcells 144)) (.cells kcells 144)
   rwa [World.size_alloc] at this
 have hu0 : Upd [p] w ((w.alloc (.cells kcells 144)).alloc (.cells kcells 144)) := ((Upd.refl _ _).alloc _).alloc _
 have H1 := Box.mk h1; have HN := Box.mk hn; have HST := Box.mk hst; have HKC := Box.mk hkc; have HU0 := Box.mk hu0
 clear h1 hn hst hkc hu0 h
 have hsr : ((w.alloc (.cells kcells 144)).alloc (.cells z80 144)).setRow (w.heap.size + 1) kcells = (w.alloc (.cells kcells 144)).alloc (.cells kcells 144) := by
   have := World.setRow_alloc_new (w.alloc (.cells kcells 144)) z80 kcells 144
   rwa [World.size_alloc] at this
 have HSR := Box.mk hsr; clear hsr
 have lp1 : p < w.heap.size + 2 := by omega
 obtain ⟨f, hf⟩ : ∃ f, f = k256.step := ⟨_, rfl⟩
 have HF := Box.mk hf
 rw [← hf]
 clear hf
 go_enter Tryz.func83, Tryz.ntmps83
 go_wp2_with (first
   | ((with_reducible refine (rounds_any _).mono ?_); rintro e w' ⟨rfl, rfl⟩)
   | ((with_reducible refine wpList_store_row rfl 144 (.tmp 5) (.tmp 6) rfl (w.heap.size + 1) kcells ?_ ?_ 144 z80 HN.out ?_ ?_ H1.out ?_); rfl; rfl; kernel_rfl; rfl))
 rw [HSR.out]
 go_frame
 clear hz H1 HN HSR
 go_loopw [1] (fun sv wr => ∃ (m : Nat) (sm : ByteArray), sv = .string sm ∧ sm.data.toList = (run 64 f m v s.data.toList).2 ∧ m * 64 ≤ s.data.toList.length ∧ Hs32 wr p (run 64 f m v s.data.toList).1 O rest size ∧ (run 64 f m v s.data.toList).1.Ok 32 ∧
     wr.heap[w.heap.size + 1]? = some (.cells kcells 144 (0, 0)) ∧ Upd [p] w wr ∧ w.heap.size + 1 < wr.heap.size) (fun sv _ => match sv with | .string s => s.size | _ => 0)
 case atStart => exact ⟨0, s, rfl, rfl, by omega, HST.out, hv, HKC.out, HU0.out, by simp⟩
 case round =>
   clear HST HKC HU0
   obtain ⟨m, sm, rfl, hsm, hm, hs, hok, hkc, hu, hz2⟩ := hrel
   have hsl : sm.size = s.data.toList.length - m * 64 := by rw [← size_list, hsm, run_len _ _ _ _ _ hm]
   have HSL := Box.mk hsl; clear hsl
   have hszm : sm.size ≤ s.size := by
     rw [← size_list, hsm, run_len _ _ _ _ _ hm, size_list]; omega
   have k0 := cell_of_row _ _ 0 _ _ _ hs
   simp [hc32, hcells] at k0
   have HS := Box.mk hs; have HKC := Box.mk hkc; have HU := Box.mk hu; have HOK := Box.mk hok; have HSM := Box.mk hsm; have HM := Box.mk hm
   clear hs hkc hu hok hsm hm
   by_cases hlt : 64 ≤ sm.size
   · have hltI : (64 : Int) ≤ (sm.size : Int) := by omega
     have r1 := run_one 64 f m v s.data.toList
     have R1 := Box.mk r1; clear r1
     generalize hvm : (run 64 f m v s.data.toList).1 = vm at HS HOK R1
     generalize hlm : (run 64 f m v s.data.toList).2 = lm at HSM R1
     clear hvm hlm
     have e1 := extract_take sm 64
     have e1s : (sm.extract 0 64).size = 64 := by simp; omega
     have E1 := Box.mk e1; have E1S := Box.mk e1s
     clear e1 e1s
     go_wp2_with ((with_reducible refine (long32_any p _ _ _ _ _ HS.out).mono ?_); rintro e w' ⟨rfl, rfl⟩)
     go_region_with (first
       | (go_at_call 85; refine (long32_any p vm O rest size _ ?hs1).mono ?_; (case hs1 => exact HS.out); rintro e w' ⟨rfl, rfl⟩)
       | (go_at_call 118; refine (read32_any (sm.extract 0 64) E1S.out _).mono ?_; rintro e w1 ⟨g, cap, rfl, hgl, hcells, hb1⟩; have HC1 := Box.mk hcells; have HB1 := Box.mk hb1; clear hcells hb1)
       | (go_at_call 119; refine (s256_any _).mono ?_; rintro e w2 ⟨rfl, rfl⟩)
       | (go_at_call 117; refine (blockZ32 p (w.heap.size + 1) g cap vm O rest size (sm.extract 0 64).data.toList wr.drew w1 ?h1 ?h2 ?h3 ?h4 ?h5).mono ?_; (case h4 => exact HB1.out); (case h1 => exact HS.out); (case h2 => exact HOK.out); (case h3 => exact HKC.out); (case h5 => exact HC1.out); rintro e w4 ⟨rfl, hs4, hok4, hu4⟩; have HS4 := Box.mk hs4; have HOK4 := Box.mk hok4; have HU4 := Box.mk hu4; clear hs4 hok4 hu4))
     go_wp2_with ((with_reducible refine (long32_any p _ _ _ _ _ HS4.out).mono ?_); rintro e w' ⟨rfl, rfl⟩)
     have hu4 : Upd [p] wr w4 := (Upd.refl [p] wr).drew.trans HU4.out
     have hz4 := hu4.size
     refine ⟨⟨m + 1, sm.extract 64 sm.size, rfl, ?_, ?_, ?_, ?_, ?_, HU.out.trans hu4, by omega⟩, ?_⟩
     · rw [R1.out, extract_drop _ _ _ rfl, HSM.out]
     · have := HSL.out; rw [Nat.add_mul]; omega
     · rw [R1.out, ← HSM.out, ← E1.out, HF.out]; exact HS4.out
     · rw [R1.out, ← HSM.out, ← E1.out, HF.out]; exact HOK4.out
     · exact (hu4.block _ hz2 (by simp; omega)).trans HKC.out
     · show (sm.extract 64 sm.size).size < sm.size
       simp; omega
   · have hltI : ¬ (64 : Int) ≤ (sm.size : Int) := by omega
     have hfin := run_blks (B := 64) (by omega) f m v s.data.toList HM.out (by rw [← HSM.out, size_list]; omega)
     have HFIN := Box.mk hfin
     clear hfin
     go_wp2_with ((with_reducible refine (long32_any p _ _ _ _ _ HS.out).mono ?_); rintro e w' ⟨rfl, rfl⟩)
     go_ret
     exact ⟨sm, rfl, by rw [HSM.out, HFIN.out], by rw [← HFIN.out]; exact HS.out, by rw [← HFIN.out]; exact HOK.out, HU.out⟩
open Go Go.RowKit
theorem mul64w_any (x y : Nat) (hx : x < 18446744073709551616) (hy : y < 18446744073709551616) (w : World) :
   Calls Tryz.prog 48 #[.int .u64 x, .int .u64 y] w fun e w' => e = .returned (.tuple #[.int .u64 ((x * y / 18446744073709551616 : Nat) : Int), .int .u64 ((x * y % 18446744073709551616 : Nat) : Int)]) ∧ w' = w := by
 obtain ⟨bd, bt, bw, hhi⟩ := Lib.mul64_hi x y hx hy
 have ba := Lib.half_mul_le (a := x / 4294967296) (b := y / 4294967296) (by omega) (by omega)
 have bb := Lib.half_mul_le (a := x / 4294967296) (b := y % 4294967296) (by omega) (by omega)
 have bc := Lib.half_mul_le (a := x % 4294967296) (b := y / 4294967296) (by omega) (by omega)
 have b1 : x / 4294967296 * (y / 4294967296) < 18446744073709551616 := by omega
 have b2 : x / 4294967296 * (y % 4294967296) < 18446744073709551616 := by omega
 have b3 : x % 4294967296 * (y / 4294967296) < 18446744073709551616 := by omega
 have b4 : x / 4294967296 * (y / 4294967296) + (x / 4294967296 * (y % 4294967296) + x % 4294967296 * (y % 4294967296) / 4294967296) / 4294967296 < 18446744073709551616 := by omega
 have b5 : x / 4294967296 * (y / 4294967296) + (x / 4294967296 * (y % 4294967296) + x % 4294967296 * (y % 4294967296) / 4294967296) / 4294967296 + ((x / 4294967296 * (y % 4294967296) + x % 4294967296 * (y % 4294967296) / 4294967296) % 4294967296 + x % 4294967296 * (y / 4294967296)) / 4294967296 < 18446744073709551616 := by omega
 go_enter Tryz.func48, Tryz.ntmps48
 go_wp2
 simp only [Mul64.maskN x hx, Mul64.maskN y hy, Mul64.divN, Mul64.mulN, Mul64.addN, Mul64.wrapN _ bd, Mul64.wrapN _ b2, Mul64.wrapN _ bt, Mul64.maskN _ bt, Mul64.wrapN _ b3, Mul64.wrapN _ bw, Mul64.wrapN _ b1, Mul64.wrapN _ b4, Mul64.wrapN _ b5, Mul64.wrapM (x * y)]
 rw [hhi]
 go_ret2
 exact ⟨rfl, rfl⟩
open Go Go.RowKit Sha
theorem mul8_any (x : Nat) (hx : x ≤ 1000000) (w : World) : Calls Tryz.prog 48 #[.int .u64 x, .int .u64 8] w fun e w' => e = .returned (.tuple #[.int .u64 0, .int .u64 ((8 * x : Nat) : Int)]) ∧ w = w' := by
 have h := mul64w_any x 8 (by omega) (by omega) w
 rw [show ((x * 8 / 18446744073709551616 : Nat) : Int) = 0 from by omega, show x * 8 % 18446744073709551616 = 8 * x from by omega] at h
 exact h.mono fun e w' ⟨a, b⟩ => ⟨a, b.symm⟩
def rowS (st : St) (j m : Nat) : List UInt8 := st.r ++ (128 : UInt8) :: (List.replicate j 0 ++ (bytesOf (8 * st.n) 8).take m)
theorem rowS_step (st : St) (j m : Nat) (hm : m < 8) : rowS st j (m + 1) = rowS st j m ++ [UInt8.ofNat (8 * st.n / 256 ^ (8 - 1 - m))] := by
 unfold rowS; rw [bytesOf_step _ _ _ hm]; simp
theorem rowS_zero (st : St) (j : Nat) : rowS st (j + 1) 0 = rowS st j 0 ++ [0] := by
 unfold rowS; rw [List.replicate_succ']; simp
theorem bytes_split (x : Nat) : ∀ a b, x < 256 ^ b → bytesOf x (a + b) = List.replicate a 0 ++ bytesOf x b
 | 0, b, _ => by simp
 | a + 1, b, h => by
   rw [show a + 1 + b = a + b + 1 from by omega, bytesOf, bytes_split x a b h, List.replicate_succ, List.cons_append]
   congr 1
   rw [Nat.div_eq_of_lt (Nat.lt_of_lt_of_le h (Nat.pow_le_pow_right (by omega) (by omega)))]
   rfl
theorem bytes16 (x : Nat) (h : x < 256 ^ 8) : bytesOf x 16 = List.replicate 8 0 ++ bytesOf x 8 := bytes_split x 8 8 h
def St32 (w : World) (p : Nat) (st : St) : Prop := ∃ (O : V8) (r : ByteArray), Hs32 w p st.v O r st.n ∧ r.data.toList = st.r ∧ st.v.Ok 32 ∧ st.r.length = st.n % 64
theorem k256_ok : k256.h.Ok 32 := ⟨by decide, by decide, by decide, by decide, by decide, by decide, by decide, by decide⟩
theorem new32_any (w : World) : Calls Tryz.prog 43 #[.int .i64 0] w fun e w' => ∃ p, e = .returned (.tuple #[.pointer (some ⟨p, 0, none⟩), .int .i64 0]) ∧ w.heap.size ≤ p ∧ St32 w' p k256.new ∧ Below w.heap.size w w' :=
 (new_loop 0 w (by simp)).mono fun _ _ ⟨p, he, hp, hg, hb⟩ => ⟨p, he, hp, ⟨_, _, hg, rfl, k256_ok, rfl⟩, hb⟩
set_option maxHeartbeats 1000000 in
theorem write32_any (p : Nat) (st : St) (s : ByteArray) (w : World) (h : St32 w p st) (hs : s.size ≤ 500000) (hn : st.n ≤ 500000) :
   Calls Tryz.prog 44 #[.pointer (some ⟨p, 0, none⟩), .string s] w fun e w' => e = .returned (.tuple #[]) ∧ St32 w' p (k256.write st s.data.toList) ∧ Upd [p] w w' := by
 obtain ⟨O, r, hg, hr, hok, hl⟩ := h
 have k18 := cell_of_row _ _ 18 _ _ _ hg
 have k17 := cell_of_row _ _ 17 _ _ _ hg
 have fz := fun j => frozen_of_row _ _ j _ _ hg
 have f17 := fz 17; have f18 := fz 18
 simp [hc32, hcells] at k18 k17
 have hg1 : Hs32 (w.setCell ⟨p, 18, none⟩ (.int .i64 ((st.n : Int) + (s.size : Int)))) p st.v O r ((st.n : Int) + (s.size : Int)) := by
   unfold Hs32; rw [heap_setCell_same _ _ _ _ _ _ hg]; rfl
 have hrs : (r ++ s).size ≤ 1000000 := by
   rw [ByteArray.size_append, ← size_list r, hr, hl]; omega
 have HCAT : Box (¬ 9223372036854775807 < r.size + s.size) := ⟨by rw [ByteArray.size_append] at hrs; omega⟩
 have hra : (r ++ s).data.toList = st.r ++ s.data.toList := by rw [← hr]; simp
 have hbl := blks_rest (B := 64) (by omega) k256.step st.v (st.r ++ s.data.toList)
 have hb := blocks32_any p st.v O r ((st.n : Int) + (s.size : Int)) (r ++ s) _ hg1 hok hrs
 rw [hra] at hb
 have hw : ∀ q, blks 64 k256.step st.v (st.r ++ s.data.toList) = q → k256.write st s.data.toList = ⟨q.1, q.2, st.n + s.size⟩ := by
   intro q hq; subst hq; unfold Sha.Kd.write; rw [size_list]; rfl
 have hw := hw _ rfl
 rw [hw]
 generalize blks 64 k256.step st.v (st.r ++ s.data.toList) = q at hb hbl ⊢
 have HB := Box.mk hb; have HBL := Box.mk hbl; have HL := Box.mk hl; have HG := Box.mk hg
 clear hb hbl hl hg hw hra hrs hg1 hr hok fz
 have b1 : (0 : Int) ≤ (st.n : Int) + (s.size : Int) := by omega
 have hcat : ¬ 9223372036854775807 < r.size + s.size := HCAT.out
 go_enter Tryz.func44, Tryz.ntmps44
 go_wp2_with ((with_reducible refine HB.out.mono ?_); rintro e w1 ⟨r1, rfl, hr1, hs1, hok1, hu1⟩; have HR1 := Box.mk hr1; have HS1 := Box.mk hs1; have HOK1 := Box.mk hok1; have HU1 := Box.mk hu1; have c17 := cell_of_row _ _ 17 _ _ _ hs1; have g17 := frozen_of_row _ _ 17 _ _ hs1; simp [hc32, hcells] at c17; clear hr1 hs1 hok1 hu1)
 go_end0
 refine ⟨rfl, ⟨O, r1, ?_, HR1.out, HOK1.out, ?_⟩, ?_⟩
 · have h1 : (w1.setCell ⟨p, 17, none⟩ (.string r1)).heap[p]? = some (.cells (hc32 0 q.1 O r1 ((st.n : Int) + (s.size : Int))) 115 (0, 0)) := by
     rw [heap_setCell_same _ _ _ _ _ _ HS1.out]; rfl
   exact h1
 · show q.2.length = (st.n + s.size) % 64
   rw [HBL.out, List.length_append, HL.out, size_list]; omega
 · exact (((Upd.refl [p] w).setCell (by simp) _).trans HU1.out).setCell (by simp) _
open Go Go.RowKit Sha
theorem pad_zeros32 (n r : Nat) (h : r = n % 64) : zeros 64 n < 64 ∧ (r + 1 + zeros 64 n) % 64 = 56 ∧ ∀ j, j < zeros 64 n → (r + 1 + j) % 64 ≠ 56 := by
 subst h
 unfold zeros
 refine ⟨by omega, by omega, fun j hj => by omega⟩
theorem pad32_eq (n : Nat) (hn : n ≤ 1000000) : padB 64 n = (128 : UInt8) :: (List.replicate (zeros 64 n + 0) 0 ++ bytesOf (8 * n) 8) := by
 unfold padB
 rfl
theorem ask32_eq (st : St) : k256.ask st = (blks 64 k256.step st.v (st.r ++ padB 64 st.n)).1.list.flatMap fun x => bytesOf x 4 := rfl
set_option maxRecDepth 100000 in
set_option maxHeartbeats 4000000 in
theorem sum32_any (p : Nat) (st : St) (w : World) (h : St32 w p st) (hn : st.n ≤ 900000) :
   Calls Tryz.prog 46 #[.pointer (some ⟨p, 0, none⟩)] w fun e w' => e = .returned (.string ⟨(k256.ask st).toArray⟩) ∧ Below w.heap.size w w' := by
 obtain ⟨O, r, hg, hr, hok, hl⟩ := h
 have lp := (Array.getElem?_eq_some_iff.1 hg).1
 obtain ⟨hz1, hz2, hz3⟩ := pad_zeros32 st.n st.r.length hl
 obtain ⟨Z, hZ⟩ : ∃ Z, Z = zeros 64 st.n := ⟨_, rfl⟩
 rw [← hZ] at hz1 hz2 hz3
 obtain ⟨W1, hW1⟩ : ∃ W1, W1 = w.alloc (.cells (hc32 0 st.v O r st.n) 115) := ⟨_, rfl⟩
 have hcl := shclone_any p _ _ _ r st.n w hg
 rw [show w.alloc (.cells (hcells _ _ _ r (st.n : Int)) 115) = W1 from hW1.symm] at hcl
 replace hcl := hcl.mono fun e w' ⟨a, b⟩ => (⟨a, b.symm⟩ : e = Ending.returned (.pointer (some ⟨w.heap.size, 0, none⟩)) ∧ W1 = w')
 have z1 : W1.heap.size = w.heap.size + 1 := by rw [hW1]; simp
 have g1 : Hs32 W1 w.heap.size st.v O r st.n := by rw [hW1]; exact heap_alloc_new _ _
 have gp : Hs32 W1 p st.v O r st.n := by rw [hW1]; exact (heap_alloc_old _ _ lp).trans hg
 have b1 : Below w.heap.size w W1 := by rw [hW1]; exact (Below.refl _ _).alloc (Nat.le_refl _) _
 have k17 := cell_of_row _ _ 17 _ _ _ g1
 simp [hc32, hcells] at k17
 have hrl : r.size = st.r.length := by rw [← size_list, hr]
 have hrb : st.r.length < 64 := by omega
 obtain ⟨cap, C, fr, hcv, hown⟩ := run_tobytes (P := Tryz.prog) 9 29 5 r Tryz.underlying9 Tryz.underlying29 Tryz.underlying5 (by omega) (w.heap.size + 1) W1 (by omega)
 rw [hr, hrl] at hown
 rw [hrl] at hcv
 have HCL := Box.mk hcl; have G1 := Box.mk g1; have GP := Box.mk gp; have B1 := Box.mk b1; have HOWN := Box.mk hown; have HZ := Box.mk hZ; have HL := Box.mk hl; have HOK := Box.mk hok; have Z1 := Box.mk z1; have HRL := Box.mk hrl
 have hB0 : ∀ D, Below (w.heap.size + 1) W1 ((W1.alloc (.cells C 5 fr)).alloc D).drew := fun D => (((Below.refl _ _).alloc (by omega) _).alloc (by simp; omega) _).drew
 have hsz0 : ∀ D, w.heap.size + 1 ≤ ((W1.alloc (.cells C 5 fr)).alloc D).drew.heap.size := fun D => by simp; omega
 have hc0 : ∀ (A : Obj) (y : Value), ((W1.alloc A).alloc (.cells #[y] 5)).drew.cell? ⟨W1.heap.size + 1, 0, none⟩ = some y := fun A y => by
   have := heap_alloc_new (W1.alloc A) (.cells #[y] 5)
   rw [World.size_alloc] at this
   exact (cell_of_row (W1.alloc A |>.alloc _) _ 0 _ _ _ this)
 have HB0 := Box.mk hB0; have HSZ0 := Box.mk hsz0; have HC0 := Box.mk hc0
 clear hB0 hsz0 hc0
 have HZ2 := Box.mk hz2; have HZ3 := Box.mk hz3
 clear hcl g1 gp b1 hown hZ hl hok hW1 hg hr z1 hz2 hz3 hrl
 go_enter Tryz.func46, Tryz.ntmps46
 go_wp2_with (first
   | (go_at_call 84; refine HCL.out.mono ?_; rintro e w' ⟨rfl, rfl⟩)
   | (at_builtin; refine wpList_app1 (w0 := W1) rfl (.tmp 15) (.tmp 16) 29 rfl (w.heap.size + 1) 5 (.int .u8 0) 1 Tryz.underlying29 (by kernel_rfl) rfl (.slice (some ⟨W1.heap.size, 0, none⟩) st.r.length cap) st.r.length (st.r.map byv) rfl (HOWN.out.alloc _).drew (HB0.out _) (HSZ0.out _) (W1.heap.size + 1) (.int .u8 128) rfl (HC0.out _ _) rfl (by omega) (by omega) ?_))
 intro v1 w1 hown1 hbel1 hsz1 _ hnn1
 have HO1 := Box.mk hown1; have HB1 := Box.mk hbel1; have HNN1 := Box.mk hnn1; have HSZ1 := Box.mk hsz1
 clear hown1 hbel1 hnn1 hsz1 HOWN HCL hcv k17 HC0 HB0 HSZ0
 obtain ⟨g1, cap1, rfl, _⟩ := HO1.out.cells HNN1.out
 clear HNN1
 go_wp2_with fail
 go_loopw [4] (fun b wr => ∃ N g cap : Nat, st.r.length + 1 ≤ N ∧ N ≤ st.r.length + 1 + Z ∧ b = .slice (some ⟨g, 0, none⟩) N cap ∧ Own wr (w.heap.size + 1) 5 b N ((rowS st (N - st.r.length - 1) 0).map byv) ∧ Below (w.heap.size + 1) W1 wr ∧ w.heap.size + 1 ≤ wr.heap.size) (fun b _ => match b with | .slice _ n _ => 1000 - n | _ => 0)
 case atStart => exact ⟨_, g1, cap1, Nat.le_refl _, by omega, rfl, by have := HO1.out; simpa [rowS, byv] using this, HB1.out, HSZ1.out⟩
 case round =>
   clear HO1 HB1 HSZ1
   obtain ⟨N, g, cap, hN1, hN2, rfl, hown, hbel, hsz⟩ := hrel
   have gp : Hs32 wr p st.v O r st.n := (hbel.block p (by have := Z1.out; omega)).trans GP.out
   have GPR := Box.mk gp; have HO := Box.mk hown; have HB := Box.mk hbel
   clear gp hown hbel
   obtain ⟨q, hq⟩ : ∃ q, q = N % 64 := ⟨_, rfl⟩
   have m1 : (N : Int).tmod 64 = (q : Int) := by rw [Int.tmod_eq_emod_of_nonneg (by omega)]; omega
   have m2 : IntKind.i64.wrap (q : Int) = (q : Int) := by rw [IntKind.wrap_i64]; omega
   have m3 : (64 : Int).tdiv 8 = 8 := by decide
   have m4 : IntKind.i64.wrap 8 = 8 := by rw [IntKind.wrap_i64]; omega
   have m5 : IntKind.i64.wrap (64 - 8) = 56 := by rw [IntKind.wrap_i64]; omega
   by_cases hlt : N < st.r.length + 1 + Z
   · have hne : q ≠ 56 := by
       have := HZ3.out (N - st.r.length - 1) (by omega)
       rw [show st.r.length + 1 + (N - st.r.length - 1) = N from by omega] at this
       rw [hq]; exact this
     have hneB : ((q : Int) != 56) = true := by simp; omega
     clear hne
     have HQ := Box.mk hq; clear hq
     go_wp2_with fail
     go_quiet ((go_at_call 85; exact quiet_calls (long32_any p _ _ _ _ _ GPR.out)))
     obtain ⟨wq, hwq⟩ : ∃ W : World, W = wr.drewN nq := ⟨_, rfl⟩
     rw [← hwq]
     have ho2 : Own wq (w.heap.size + 1) 5 (.slice (some ⟨g, 0, none⟩) N cap) N ((rowS st (N - st.r.length - 1) 0).map byv) := by rw [hwq]; exact HO.out.drewN _
     have hb2 : Below (w.heap.size + 1) W1 wq := by rw [hwq]; exact bdrewN HB.out _
     have hs2 : w.heap.size + 1 ≤ wq.heap.size := by rw [hwq]; exact hsz
     have HO2 := Box.mk ho2; have HB2 := Box.mk hb2; have HS2 := Box.mk hs2
     clear ho2 hb2 hs2 hwq
     go_wp2_with (at_builtin; refine wpList_app1 (w0 := W1) rfl (.tmp 30) (.tmp 31) 29 rfl (w.heap.size + 1) 5 (.int .u8 0) 1 Tryz.underlying29 (by kernel_rfl) rfl (.slice (some ⟨g, 0, none⟩) N cap) N ((rowS st (N - st.r.length - 1) 0).map byv) rfl (HO2.out.alloc _) (HB2.out.alloc HS2.out _) (by have := HS2.out; simp; omega) wq.heap.size (.int .u8 0) rfl (cell_new _ _ _) rfl (by omega) (by omega) ?_)
     intro v2 w2 hown2 hbel2 hsz2 _ hnn2
     obtain ⟨g2, cap2, rfl, _⟩ := hown2.cells hnn2
     have HO3 := Box.mk hown2; have HB3 := Box.mk hbel2; have HSZ3 := Box.mk hsz2
     clear hown2 hbel2 hnn2 hsz2 HO HB HO2 HB2 HS2
     go_wp2
     refine ⟨⟨N + 1, g2, cap2, by omega, by omega, rfl, ?_, HB3.out, HSZ3.out⟩, ?_⟩
     · have := HO3.out
       rw [show N + 1 - st.r.length - 1 = N - st.r.length - 1 + 1 from by omega]
       simpa [rowS, byv, List.replicate_succ'] using this
     · show 1000 - (N + 1) < 1000 - N
       omega
   · have hNe : N = st.r.length + 1 + Z := by omega
     have hneB : ((q : Int) != 56) = false := by
       have := HZ2.out; rw [← hNe] at this; rw [hq, this]; decide
     rw [show N - st.r.length - 1 = Z from by omega] at HO
     have HNE := Box.mk hNe
     clear hq hNe
     go_wp2_with fail
     go_quiet ((go_at_call 85; exact quiet_calls (long32_any p _ _ _ _ _ GPR.out)))
     obtain ⟨wq, hwq⟩ : ∃ W : World, W = wr.drewN nq := ⟨_, rfl⟩
     rw [← hwq]
     have ho2 : Own wq (w.heap.size + 1) 5 (.slice (some ⟨g, 0, none⟩) N cap) N ((rowS st Z 0).map byv) := by rw [hwq]; exact HO.out.drewN _
     have hb2 : Below (w.heap.size + 1) W1 wq := by rw [hwq]; exact bdrewN HB.out _
     have hs2 : w.heap.size + 1 ≤ wq.heap.size := by rw [hwq]; exact hsz
     have gq : Hs32 wq p st.v O r st.n := by rw [hwq]; exact GPR.out
     have k0 := cell_of_row _ _ 0 _ _ _ gq
     have k18 := cell_of_row _ _ 18 _ _ _ gq
     simp [hc32, hcells] at k0 k18
     have HO2 := Box.mk ho2; have HB2 := Box.mk hb2; have HS2 := Box.mk hs2
     clear ho2 hb2 hs2 hwq gq HO HB GPR hsz m1 m2 m3 m4 m5 hneB
     have hw64 : IntKind.u64.wrap (st.n : Int) = (st.n : Int) := by rw [IntKind.wrap_u64]; omega
     go_wp2_with (go_at_call 48; refine (mul8_any st.n (by omega) _).mono ?_; rintro e w' ⟨rfl, rfl⟩)
     clear k0 k18 hw64
     obtain ⟨L, hL⟩ : ∃ L : Nat, L = 8 * st.n := ⟨_, rfl⟩
     have hLI : 8 * (st.n : Int) = (L : Int) := by omega
     rw [hLI]
     have HLL := Box.mk hL; clear hL hLI
     go_loopw [4, 8] (fun b k wr => ∃ m g cap : Nat, m ≤ 8 ∧ k = .int .i64 (56 - 8 * (m : Int)) ∧ b = .slice (some ⟨g, 0, none⟩) (N + 0 + m) cap ∧ Own wr (w.heap.size + 1) 5 b (N + 0 + m) ((rowS st (Z + 0) m).map byv) ∧ Below (w.heap.size + 1) W1 wr ∧ w.heap.size + 1 ≤ wr.heap.size) (fun _ k _ => (intOf k + 8).toNat)
     case atStart => exact ⟨0, _, _, by omega, rfl, rfl, HO2.out, HB2.out, HS2.out⟩
     case round =>
       clear HO2 HB2 HS2
       obtain ⟨m, g, cap, hm, rfl, rfl, hown, hbel, hsz⟩ := hrel
       by_cases hml : m < 8
       · obtain ⟨c, hc⟩ : ∃ c : Nat, c = 56 - 8 * m := ⟨_, rfl⟩
         have hcI : 56 - 8 * (m : Int) = (c : Int) := by omega
         have hc0 : (0 : Int) ≤ (c : Int) := by omega
         have hy := shift_byte L c (8 - 1 - m) (by omega)
         have HY := Box.mk hy
         have HO := Box.mk hown; have HB := Box.mk hbel
         clear hown hbel hc hy
         go_wp2_with (at_builtin; refine wpList_app1 (w0 := W1) rfl (.tmp 62) (.tmp 67) 29 rfl (w.heap.size + 1) 5 (.int .u8 0) 1 Tryz.underlying29 (by kernel_rfl) rfl (.slice (some ⟨g, 0, none⟩) (N + 0 + m) cap) (N + 0 + m) ((rowS st (Z + 0) m).map byv) rfl (HO.out.alloc _) (HB.out.alloc hsz _) (by simp; omega) wr.heap.size (.int .u8 ((L : Int) / 2 ^ c % 256)) rfl (cell_new _ _ _) rfl (by omega) (by omega) ?_)
         intro v2 w2 hown2 hbel2 hsz2 _ hnn2
         obtain ⟨g2, cap2, rfl, _⟩ := hown2.cells hnn2
         have HO3 := Box.mk hown2; have HB3 := Box.mk hbel2; have HSZ3 := Box.mk hsz2
         clear hown2 hbel2 hnn2 hsz2 HO HB
         go_wp2
         refine ⟨⟨m + 1, g2, cap2, by omega, int_congr (by omega), rfl, ?_, HB3.out, HSZ3.out⟩, by simp [intOf]; omega⟩
         have := HO3.out
         rw [HY.out] at this
         rw [rowS_step _ _ _ hml, ← HLL.out]
         simpa [← Nat.add_assoc] using this
       · obtain rfl : m = 8 := by omega
         have hfull : rowS st (Z + 0) 8 = st.r ++ padB 64 st.n := by
           unfold rowS
           rw [pad32_eq _ (by omega), ← HZ.out, List.take_of_length_le (by rw [bytesOf_len]; exact Nat.le_refl _)]
         have hlen := hown.1
         rw [hfull] at hown hlen
         rw [List.length_map] at hlen
         obtain ⟨D, hD⟩ : ∃ D : ByteArray, D = ⟨(st.r ++ padB 64 st.n).toArray⟩ := ⟨_, rfl⟩
         have hcv := run_str_Own (P := Tryz.prog) (dst := 9) hown (by simp) Tryz.underlying29 Tryz.underlying5 Tryz.underlying9
         rw [← hD] at hcv
         have hDl : D.data.toList = st.r ++ padB 64 st.n := by rw [hD]
         have hgc : Hs32 wr w.heap.size st.v O r st.n := (hbel.block _ (by omega)).trans G1.out
         have hblk := blocks32_any w.heap.size st.v O r st.n D wr hgc HOK.out (by rw [← size_list, hDl, hlen]; have := HNE.out; omega)
         rw [hDl] at hblk
         have hask := ask32_eq st
         generalize blks 64 k256.step st.v (st.r ++ padB 64 st.n) = Q at hblk hask
         have HBLK := Box.mk hblk; have HASK := Box.mk hask; have HB := Box.mk hbel; have HZW := Box.mk hsz
         have gpr : Hs32 wr p st.v O r st.n := (hbel.block p (by have := Z1.out; omega)).trans GP.out
         have GPR := Box.mk gpr
         have hbv := bytes32_any Q.1
         unfold v8c32 u32v at hbv
         have HBV := Box.mk hbv
         clear hfull hlen hown hD hDl hgc hblk hask hbel gpr hbv
         go_wp2_with (first
           | (go_at_call 83; refine HBLK.out.mono ?_; rintro e w2 ⟨r2, rfl, _, hs2, hok2, hu2⟩; have gp2 := (hu2.block p ?hlt ?hne).trans GPR.out; (case hlt => have := HZW.out; omega); (case hne => simp; omega); have k0 := cell_of_row _ _ 0 _ _ _ gp2; have HS2 := Box.mk hs2; have HU2 := Box.mk hu2; have q1 := cell_of_row _ _ 1 _ _ _ hs2; have q2 := cell_of_row _ _ 2 _ _ _ hs2; have q3 := cell_of_row _ _ 3 _ _ _ hs2; have q4 := cell_of_row _ _ 4 _ _ _ hs2; have q5 := cell_of_row _ _ 5 _ _ _ hs2; have q6 := cell_of_row _ _ 6 _ _ _ hs2; have q7 := cell_of_row _ _ 7 _ _ _ hs2; have q8 := cell_of_row _ _ 8 _ _ _ hs2; simp [hc32, hcells, u32v, u64v] at k0 q1 q2 q3 q4 q5 q6 q7 q8; clear hs2 hu2 gp2 hok2)
           | (go_at_call 86; refine (HBV.out _).mono ?_; rintro e w3 ⟨rfl, hb3⟩; have HB3 := Box.mk hb3; clear hb3))
         go_ret
         refine ⟨by rw [HASK.out]; rfl, ?_⟩
         have h1 := B1.out.trans (HB.out.mono (by omega))
         have h2 := Upd.below h1 HU2.out (by simp) h1.size
         exact h2.trans (HB3.out.mono h2.size)
end Go.Proofs.YtafhncpaoolljaaGreat
