/- SHA-2: a block's words read; words' bytes. -/
import Derived.Test.YtafhncpaoolljaaGreatM07
import Derived.ShutString
namespace Go.Proofs.YtafhncpaoolljaaGreat
set_option maxRecDepth 100000
set_option linter.unusedVariables false
open Go Go.RowKit Sha
theorem Sha.be_snoc (l : List UInt8) (b : UInt8) : be (l ++ [b]) = 256 * be l + b.toNat := by simp [be, List.foldl_append]
theorem Sha.be_rev_lt (l : List UInt8) : be l.reverse < 256 ^ l.length := by
 induction l with
 | nil => simp [be]
 | cons b l ih =>
   rw [List.reverse_cons, be_snoc, List.length_cons, Nat.pow_succ]
   have := b.toNat_lt
   omega
theorem Sha.be_lt (l : List UInt8) : be l < 256 ^ l.length := by
 have := be_rev_lt l.reverse
 rwa [List.reverse_reverse, List.length_reverse] at this
theorem Sha.wordsOf_snoc (n : Nat) : ∀ t l, wordsOf n (t + 1) l = wordsOf n t l ++ [be ((l.drop (n * t)).take n)]
 | 0, l => by simp [wordsOf]
 | t + 1, l => by
   rw [wordsOf, wordsOf_snoc n t (l.drop n), wordsOf, List.drop_drop, List.cons_append, show n + n * t = n * (t + 1) from by rw [Nat.mul_add, Nat.mul_one]; omega]
theorem Sha.wordsOf_len (n : Nat) : ∀ t l, (wordsOf n t l).length = t
 | 0, l => rfl
 | t + 1, l => by rw [wordsOf, List.length_cons, wordsOf_len n t]
theorem Sha.wordsOf_lt (n : Nat) : ∀ t l, ∀ x ∈ wordsOf n t l, x < 256 ^ n
 | 0, l, x, h => by cases h
 | t + 1, l, x, h => by
   rcases List.mem_cons.1 h with h | h
   · subst h
     exact Nat.lt_of_lt_of_le (be_lt _) (Nat.pow_le_pow_right (by omega) (by rw [List.length_take]; omega))
   · exact wordsOf_lt n t _ x h
theorem Sha.be_step (s : ByteArray) (b p k : Nat) (hp : p = b + k) (h : p < s.size) : be ((s.data.toList.drop b).take (k + 1)) = 256 * be ((s.data.toList.drop b).take k) + s[p].toNat := by
 have hl : k < (s.data.toList.drop b).length := by
   rw [List.length_drop]
   have : s.data.toList.length = s.size := by simp
   omega
 rw [List.take_succ_eq_append_getElem hl, be_snoc]
 congr 1
 subst hp
 simp
 rfl
theorem Sha.bytesOf_len (x : Nat) : ∀ n, (bytesOf x n).length = n
 | 0 => rfl
 | n + 1 => by rw [bytesOf, List.length_cons, bytesOf_len x n]
theorem Sha.bytesOf_step (x : Nat) : ∀ n j, j < n → (bytesOf x n).take (j + 1) = (bytesOf x n).take j ++ [UInt8.ofNat (x / 256 ^ (n - 1 - j))]
 | n + 1, 0, _ => by simp [bytesOf]
 | n + 1, j + 1, h => by
   rw [bytesOf, List.take_succ_cons, List.take_succ_cons, bytesOf_step x n j (by omega), List.cons_append, show n - 1 - j = n + 1 - 1 - (j + 1) from by omega]
theorem shift_byte (x c m : Nat) (h : c = 8 * m) : Value.int .u8 ((x : Int) / 2 ^ c % 256) = byv (UInt8.ofNat (x / 256 ^ m)) := by
 subst h
 unfold byv
 have e : (2 : Int) ^ (8 * m) = ((256 ^ m : Nat) : Int) := by rw [show (256 : Nat) = 2 ^ 8 from rfl, ← Nat.pow_mul]; simp
 rw [UInt8.toNat_ofNat', e]
 exact int_congr (by simp)
theorem shl_or32 (x b : Nat) (hx : x * 256 < 4294967296) (hb : b < 256) : bits .or .u32 ((x : Int) * 256) ((b : Int) % 4294967296) = ((256 * x + b : Nat) : Int) := by
 have e : (x : Int) * 256 = ((x * 256 : Nat) : Int) := by omega
 have e2 : ((b : Int) % 4294967296) = (b : Int) := by omega
 rw [e, e2, u32_or_nat _ _ hx (by omega), nat_join 8 _ b (by omega) (by omega)]
 omega
set_option maxRecDepth 100000 in
set_option maxHeartbeats 2000000 in
theorem read32_any (s : ByteArray) (hs : s.size = 64) (w : World) :
   Calls Tryz.prog 118 #[.string s, .int .i64 32] w fun e w' => ∃ g cap, e = .returned (.slice (some ⟨g, 0, none⟩) 16 cap) ∧ w.heap.size ≤ g ∧
     (∀ j x, (wordsOf 4 16 s.data.toList)[j]? = some x → w'.cell? ⟨g, j, none⟩ = some (u32v x)) ∧ Below w.heap.size w w' := by
 have hmk := fun w => make_room (P := Tryz.prog) (e := 112) (z := .int .u32 0) (by_ := 4) Tryz.underlying148 (by kernel_rfl) rfl 0 16 (by omega) (by omega) (by omega) 0 16 rfl rfl w
 have hown := World.ownsRow_made (base := w.heap.size) (e := 112) (size := 1) w (List.replicate 16 (Value.int .u32 0)).toArray 16 (Nat.le_refl _) (by unfold maxLen; omega) (by simp)
 have hb0 : Below w.heap.size w (w.alloc (.cells (List.replicate 16 (Value.int .u32 0)).toArray 112)) := (Below.refl _ _).alloc (Nat.le_refl _) _
 have HOWN := Box.mk hown; have HB0 := Box.mk hb0; clear hown hb0
 have hsI : (s.size : Int) = 64 := by omega
 go_enter Tryz.func118, Tryz.ntmps118
 go_wp2_with fail
 go_loopw [5, 6] (fun v i wr => ∃ t : Nat, t ≤ 16 ∧ i = .int .i64 (4 * (t : Int)) ∧ wr.ownsRow w.heap.size 112 1 v t ((wordsOf 4 t s.data.toList).map u32v) ∧ v ≠ .slice none 0 0 ∧ Below w.heap.size w wr ∧ w.heap.size ≤ wr.heap.size) (fun _ i _ => (64 - intOf i).toNat)
 case atStart => exact ⟨0, by omega, rfl, HOWN.out, by simp, HB0.out, by simp⟩
 case round =>
   clear HOWN HB0 hmk
   obtain ⟨t, ht, rfl, hown, hnn, hbel, hsz⟩ := hrel
   by_cases hlt : t < 16
   · have ht2 : 4 * (t : Int) < 64 := by omega
     have HOWN := Box.mk hown; have HB := Box.mk hbel; have HNN := Box.mk hnn
     clear hown hbel hnn
     go_wp2_with fail
     obtain ⟨wo, rfl⟩ : ∃ wo : World, wo = wr := ⟨_, rfl⟩
     go_loop [7, 25] (fun x i => ∃ k : Nat, k ≤ 4 ∧ i = .int .i64 k ∧ x = .int .u32 (be ((s.data.toList.drop (4 * t)).take k) : Nat)) (fun _ i => 4 - (intOf i).toNat)
     case atStart => exact ⟨0, by omega, rfl, by simp [be]⟩
     case round =>
       obtain ⟨k, hk, rfl, rfl⟩ := hrel
       by_cases hkl : k < 4
       · obtain ⟨p, hp⟩ : ∃ p, p = 4 * t + k := ⟨_, rfl⟩
         have hpl : p < s.size := by omega
         have hst := be_step s (4 * t) p k hp hpl
         have hbl : be ((s.data.toList.drop (4 * t)).take k) * 256 < 4294967296 := by
           have h1 := be_lt ((s.data.toList.drop (4 * t)).take k)
           have h2 : ((s.data.toList.drop (4 * t)).take k).length ≤ 3 := by rw [List.length_take]; omega
           have h3 : 256 ^ ((s.data.toList.drop (4 * t)).take k).length ≤ 256 ^ 3 := Nat.pow_le_pow_right (by omega) h2
           omega
         have hpI : 4 * (t : Int) + (k : Int) = (p : Int) := by omega
         generalize be ((s.data.toList.drop (4 * t)).take k) = x at hst hbl
         have hor := shl_or32 x s[p].toNat hbl (s[p].toNat_lt)
         have HST := Box.mk hst; clear hst hp
         have HOR := Box.mk hor; clear hor
         have hkI : (k : Int) < 4 := by omega
         go_wp2_with fail
         exact ⟨⟨k + 1, by omega, by go_num, int_congr (by rw [HOR.out, HST.out])⟩, by simp [intOf]; omega⟩
       · obtain rfl : k = 4 := by omega
         have hw := wordsOf_snoc 4 t s.data.toList
         generalize be ((s.data.toList.drop (4 * t)).take 4) = x at hw
         have HW := Box.mk hw; clear hw
         go_wp2_with (at_builtin; go_loud (refine wpList_append1 (w := wo) rfl (.tmp 38) (.tmp 40) 148 rfl w.heap.size 112 (.int .u32 0) 4 Tryz.underlying148 (by kernel_rfl) rfl u5 t ((wordsOf 4 t s.data.toList).map u32v) rfl HOWN.out HB.out hsz (.int .u32 x) rfl rfl (by omega) (by omega) ?_))
         intro v' w1 hown' hbel' hsz' _ hnn'
         have HOWN2 := Box.mk hown'; have HB2 := Box.mk hbel'; have HNN2 := Box.mk hnn'
         clear hown' hbel' hnn' HOWN HB HNN
         go_wp2
         go_roundw
         case rel => exact ⟨t + 1, by omega, int_congr (by omega), by rw [HW.out, List.map_append]; exact HOWN2.out, HNN2.out, HB2.out, hsz'⟩
         case measure => simp [intOf]; omega
   · obtain rfl : t = 16 := by omega
     have HOWN := Box.mk hown; have HB := Box.mk hbel; have HNN := Box.mk hnn
     clear hown hbel hnn
     go_wp2
     go_ret
     obtain ⟨g, cap, rfl, hbg, hcells, hlt2, _⟩ := owned_cells HOWN.out HNN.out
     exact ⟨g, cap, rfl, hbg, fun j x hj => hcells j _ (by rw [List.getElem?_map, hj]; rfl), HB.out⟩
theorem idx32 (T : TypeId) (hT : T = 113) (v : V8) (k : Nat) (hk : k < 8) (w : World) : (Instr.index T (.agg (v8c32 v)) (.int .i64 k)).run Tryz.prog w = .ok (.int .u32 (v.list.getD k 0 : Nat)) w := by
 subst hT
 have h0 : (Instr.index 113 (.agg (v8c32 v)) (.int .i64 0)).run Tryz.prog w = .ok (.int .u32 (v.list.getD 0 0 : Nat)) w := by kernel_rfl
 have h1 : (Instr.index 113 (.agg (v8c32 v)) (.int .i64 1)).run Tryz.prog w = .ok (.int .u32 (v.list.getD 1 0 : Nat)) w := by kernel_rfl
 have h2 : (Instr.index 113 (.agg (v8c32 v)) (.int .i64 2)).run Tryz.prog w = .ok (.int .u32 (v.list.getD 2 0 : Nat)) w := by kernel_rfl
 have h3 : (Instr.index 113 (.agg (v8c32 v)) (.int .i64 3)).run Tryz.prog w = .ok (.int .u32 (v.list.getD 3 0 : Nat)) w := by kernel_rfl
 have h4 : (Instr.index 113 (.agg (v8c32 v)) (.int .i64 4)).run Tryz.prog w = .ok (.int .u32 (v.list.getD 4 0 : Nat)) w := by kernel_rfl
 have h5 : (Instr.index 113 (.agg (v8c32 v)) (.int .i64 5)).run Tryz.prog w = .ok (.int .u32 (v.list.getD 5 0 : Nat)) w := by kernel_rfl
 have h6 : (Instr.index 113 (.agg (v8c32 v)) (.int .i64 6)).run Tryz.prog w = .ok (.int .u32 (v.list.getD 6 0 : Nat)) w := by kernel_rfl
 have h7 : (Instr.index 113 (.agg (v8c32 v)) (.int .i64 7)).run Tryz.prog w = .ok (.int .u32 (v.list.getD 7 0 : Nat)) w := by kernel_rfl
 match k, hk with
 | 0, _ => exact h0
 | 1, _ => exact h1
 | 2, _ => exact h2
 | 3, _ => exact h3
 | 4, _ => exact h4
 | 5, _ => exact h5
 | 6, _ => exact h6
 | 7, _ => exact h7
set_option maxRecDepth 100000 in
set_option maxHeartbeats 2000000 in
theorem bytes32_any (v : V8) (w : World) :
   Calls Tryz.prog 86 #[.agg (v8c32 v), .int .i64 32] w fun e w' => e = .returned (.string ⟨(v.list.flatMap fun x => bytesOf x 4).toArray⟩) ∧ Below w.heap.size w w' := by
 have hb0 : Below w.heap.size w (w.alloc (.cells (v8c32 v) 113)) := (Below.refl _ _).alloc (Nat.le_refl _) _
 have hown := World.ownsRow_nil (w.alloc (.cells (v8c32 v) 113)) w.heap.size 5 1
 have HOWN := Box.mk hown; have HB0 := Box.mk hb0; clear hown hb0
 have hix := idx32 113 rfl v
 have HIX := Box.mk hix; clear hix
 obtain ⟨L, hL⟩ : ∃ L : List Nat, L = v.list := ⟨_, rfl⟩
 have hLl : L.length = 8 := by rw [hL]; rfl
 rw [← hL] at HIX ⊢
 clear hL
 unfold v8c32
 go_enter Tryz.func86, Tryz.ntmps86
 go_wp2_with fail
 go_loopw [5, 10] (fun b i wr => ∃ n : Nat, n ≤ 8 ∧ i = .int .i64 n ∧ wr.ownsRow w.heap.size 5 1 b (4 * n) (((L.take n).flatMap fun x => bytesOf x 4).map byv) ∧ (n ≠ 0 → b ≠ .slice none 0 0) ∧ Below w.heap.size w wr ∧ w.heap.size ≤ wr.heap.size) (fun _ i _ => (8 - intOf i).toNat)
 case atStart => exact ⟨0, by omega, rfl, HOWN.out, by simp, HB0.out, by simp⟩
 case round =>
   clear HOWN HB0
   obtain ⟨n, hn, rfl, hown, hnn, hbel, hsz⟩ := hrel
   by_cases hlt : n < 8
   · have hnI : (n : Int) < 8 := by omega
     have hix := HIX.out n hlt
     have hsn : L.take (n + 1) = L.take n ++ [L.getD n 0] := take_snoc' L n (by omega)
     generalize L.getD n 0 = x at hix hsn
     have HSN := Box.mk hsn; have HB := Box.mk hbel; have HOWN := Box.mk hown
     clear hsn hbel hown hnn
     unfold v8c32 at hix
     go_wp2_with fail
     clear hix
     obtain ⟨wo, rfl⟩ : ∃ wo : World, wo = wr := ⟨_, rfl⟩
     go_loopw [5, 8] (fun b k wr => ∃ j : Nat, j ≤ 4 ∧ k = .int .i64 (24 - 8 * (j : Int)) ∧ wr.ownsRow w.heap.size 5 1 b (4 * n + j) ((((L.take n).flatMap fun x => bytesOf x 4) ++ (bytesOf x 4).take j).map byv) ∧ (j ≠ 0 → b ≠ .slice none 0 0) ∧ Below w.heap.size w wr ∧ w.heap.size ≤ wr.heap.size) (fun _ k _ => (intOf k + 8).toNat)
     case atStart => exact ⟨0, by omega, rfl, by simpa using HOWN.out, by simp, HB.out, hsz⟩
     case round =>
       clear HOWN HB hsz
       obtain ⟨j, hj, rfl, hown, hnn, hbel, hsz⟩ := hrel
       by_cases hjl : j < 4
       · obtain ⟨c, hc⟩ : ∃ c : Nat, c = 24 - 8 * j := ⟨_, rfl⟩
         have hcI : 24 - 8 * (j : Int) = (c : Int) := by omega
         have hc0 : (0 : Int) ≤ (c : Int) := by omega
         have HOWN := Box.mk hown; have HB := Box.mk hbel
         have hy := shift_byte x c (4 - 1 - j) (by omega)
         have hst := bytesOf_step x 4 j hjl
         have HST := Box.mk hst
         have HY := Box.mk hy
         clear hown hbel hnn hc hy hst
         go_wp2_with (at_builtin; refine wpList_append1 (w := wr) rfl (.tmp 19) (.tmp 24) 29 rfl w.heap.size 5 (.int .u8 0) 1 Tryz.underlying29 (by kernel_rfl) rfl u5 (4 * n + j) ((((L.take n).flatMap fun x => bytesOf x 4) ++ (bytesOf x 4).take j).map byv) rfl HOWN.out HB.out hsz (.int .u8 ((x : Int) / 2 ^ c % 256)) rfl rfl (by omega) (by omega) ?_)
         intro v' w1 hown' hbel' hsz' _ hnn'
         have HOWN2 := Box.mk hown'; have HB2 := Box.mk hbel'; have HNN2 := Box.mk hnn'
         clear hown' hbel' hnn' HOWN HB
         go_wp2
         go_roundw
         case rel => exact ⟨j + 1, by omega, int_congr (by omega), by rw [HST.out]; rw [HY.out] at HOWN2; simpa [← Nat.add_assoc] using HOWN2.out, fun _ => HNN2.out, HB2.out, hsz'⟩
         case measure => simp [intOf]; omega
       · obtain rfl : j = 4 := by omega
         rw [(List.take_of_length_le (by rw [bytesOf_len]; exact Nat.le_refl _) : (bytesOf x 4).take 4 = bytesOf x 4)] at hown
         have HOWN := Box.mk hown; have HB := Box.mk hbel; have HNN := Box.mk hnn
         clear hown hbel hnn
         go_wp2
         go_roundw
         case rel => exact ⟨n + 1, by omega, by go_num, by rw [HSN.out, List.flatMap_append, Nat.mul_add, Nat.mul_one]; simpa using HOWN.out, fun _ => HNN.out (by omega), HB.out, hsz⟩
         case measure => simp [intOf]; omega
   · obtain rfl : n = 8 := by omega
     rw [List.take_of_length_le (by omega)] at hown
     have hcv := run_str_owned (P := Tryz.prog) (dst := 9) hown (hnn (by omega)) Tryz.underlying29 Tryz.underlying5 Tryz.underlying9
     have HB := Box.mk hbel
     clear hown hbel hnn
     go_wp2
     go_ret
     exact ⟨rfl, HB.out⟩
theorem shl_or64 (x b : Nat) (hx : x * 256 < 18446744073709551616) (hb : b < 256) : bits .or .u64 ((x : Int) * 256) (IntKind.u64.wrap (b : Int)) = ((256 * x + b : Nat) : Int) := by
 have e : (x : Int) * 256 = ((x * 256 : Nat) : Int) := by omega
 have e2 : (IntKind.u64.wrap (b : Int)) = (b : Int) := by rw [IntKind.wrap_u64]; omega
 rw [e, e2, u64_or_nat _ _ hx (by omega), nat_join 8 _ b (by omega) (by omega)]
 omega
set_option maxRecDepth 100000 in
set_option maxHeartbeats 2000000 in
theorem read64_any (s : ByteArray) (hs : s.size = 128) (w : World) :
   Calls Tryz.prog 121 #[.string s, .int .i64 64] w fun e w' => ∃ g cap, e = .returned (.slice (some ⟨g, 0, none⟩) 16 cap) ∧ w.heap.size ≤ g ∧
     (∀ j x, (wordsOf 8 16 s.data.toList)[j]? = some x → w'.cell? ⟨g, j, none⟩ = some (u64v x)) ∧ Below w.heap.size w w' := by
 have hmk := fun w => make_room (P := Tryz.prog) (e := 54) (z := .int .u64 0) (by_ := 8) Tryz.underlying71 (by kernel_rfl) rfl 0 16 (by omega) (by omega) (by omega) 0 16 rfl rfl w
 have hown := World.ownsRow_made (base := w.heap.size) (e := 54) (size := 1) w (List.replicate 16 (Value.int .u64 0)).toArray 16 (Nat.le_refl _) (by unfold maxLen; omega) (by simp)
 have hb0 : Below w.heap.size w (w.alloc (.cells (List.replicate 16 (Value.int .u64 0)).toArray 54)) := (Below.refl _ _).alloc (Nat.le_refl _) _
 have HOWN := Box.mk hown; have HB0 := Box.mk hb0; clear hown hb0
 have hsI : (s.size : Int) = 128 := by omega
 go_enter Tryz.func121, Tryz.ntmps121
 go_wp2_with fail
 go_loopw [5, 6] (fun v i wr => ∃ t : Nat, t ≤ 16 ∧ i = .int .i64 (8 * (t : Int)) ∧ wr.ownsRow w.heap.size 54 1 v t ((wordsOf 8 t s.data.toList).map u64v) ∧ v ≠ .slice none 0 0 ∧ Below w.heap.size w wr ∧ w.heap.size ≤ wr.heap.size) (fun _ i _ => (128 - intOf i).toNat)
 case atStart => exact ⟨0, by omega, rfl, HOWN.out, by simp, HB0.out, by simp⟩
 case round =>
   clear HOWN HB0 hmk
   obtain ⟨t, ht, rfl, hown, hnn, hbel, hsz⟩ := hrel
   by_cases hlt : t < 16
   · have ht2 : 8 * (t : Int) < 128 := by omega
     have HOWN := Box.mk hown; have HB := Box.mk hbel; have HNN := Box.mk hnn
     clear hown hbel hnn
     go_wp2_with fail
     obtain ⟨wo, rfl⟩ : ∃ wo : World, wo = wr := ⟨_, rfl⟩
     go_loop [7, 25] (fun x i => ∃ k : Nat, k ≤ 8 ∧ i = .int .i64 k ∧ x = .int .u64 (be ((s.data.toList.drop (8 * t)).take k) : Nat)) (fun _ i => 8 - (intOf i).toNat)
     case atStart => exact ⟨0, by omega, rfl, by simp [be]⟩
     case round =>
       obtain ⟨k, hk, rfl, rfl⟩ := hrel
       by_cases hkl : k < 8
       · obtain ⟨p, hp⟩ : ∃ p, p = 8 * t + k := ⟨_, rfl⟩
         have hpl : p < s.size := by omega
         have hst := be_step s (8 * t) p k hp hpl
         have hbl : be ((s.data.toList.drop (8 * t)).take k) * 256 < 18446744073709551616 := by
           have h1 := be_lt ((s.data.toList.drop (8 * t)).take k)
           have h2 : ((s.data.toList.drop (8 * t)).take k).length ≤ 7 := by rw [List.length_take]; omega
           have h3 : 256 ^ ((s.data.toList.drop (8 * t)).take k).length ≤ 256 ^ 7 := Nat.pow_le_pow_right (by omega) h2
           omega
         have hpI : 8 * (t : Int) + (k : Int) = (p : Int) := by omega
         generalize be ((s.data.toList.drop (8 * t)).take k) = x at hst hbl
         have hor := shl_or64 x s[p].toNat hbl (s[p].toNat_lt)
         have HST := Box.mk hst; clear hst hp
         have HOR := Box.mk hor; clear hor
         have hkI : (k : Int) < 8 := by omega
         go_wp2_with fail
         exact ⟨⟨k + 1, by omega, by go_num, int_congr (by rw [HOR.out, HST.out])⟩, by simp [intOf]; omega⟩
       · obtain rfl : k = 8 := by omega
         have hw := wordsOf_snoc 8 t s.data.toList
         generalize be ((s.data.toList.drop (8 * t)).take 8) = x at hw
         have HW := Box.mk hw; clear hw
         go_wp2_with (at_builtin; go_loud (refine wpList_append1 (w := wo) rfl (.tmp 38) (.tmp 40) 71 rfl w.heap.size 54 (.int .u64 0) 8 Tryz.underlying71 (by kernel_rfl) rfl u5 t ((wordsOf 8 t s.data.toList).map u64v) rfl HOWN.out HB.out hsz (.int .u64 x) rfl rfl (by omega) (by omega) ?_))
         intro v' w1 hown' hbel' hsz' _ hnn'
         have HOWN2 := Box.mk hown'; have HB2 := Box.mk hbel'; have HNN2 := Box.mk hnn'
         clear hown' hbel' hnn' HOWN HB HNN
         go_wp2
         go_roundw
         case rel => exact ⟨t + 1, by omega, int_congr (by omega), by rw [HW.out, List.map_append]; exact HOWN2.out, HNN2.out, HB2.out, hsz'⟩
         case measure => simp [intOf]; omega
   · obtain rfl : t = 16 := by omega
     have HOWN := Box.mk hown; have HB := Box.mk hbel; have HNN := Box.mk hnn
     clear hown hbel hnn
     go_wp2
     go_ret
     obtain ⟨g, cap, rfl, hbg, hcells, hlt2, _⟩ := owned_cells HOWN.out HNN.out
     exact ⟨g, cap, rfl, hbg, fun j x hj => hcells j _ (by rw [List.getElem?_map, hj]; rfl), HB.out⟩
theorem idx64 (T : TypeId) (hT : T = 110) (v : V8) (k : Nat) (hk : k < 8) (w : World) : (Instr.index T (.agg (v8c64 v)) (.int .i64 k)).run Tryz.prog w = .ok (.int .u64 (v.list.getD k 0 : Nat)) w := by
 subst hT
 have h0 : (Instr.index 110 (.agg (v8c64 v)) (.int .i64 0)).run Tryz.prog w = .ok (.int .u64 (v.list.getD 0 0 : Nat)) w := by kernel_rfl
 have h1 : (Instr.index 110 (.agg (v8c64 v)) (.int .i64 1)).run Tryz.prog w = .ok (.int .u64 (v.list.getD 1 0 : Nat)) w := by kernel_rfl
 have h2 : (Instr.index 110 (.agg (v8c64 v)) (.int .i64 2)).run Tryz.prog w = .ok (.int .u64 (v.list.getD 2 0 : Nat)) w := by kernel_rfl
 have h3 : (Instr.index 110 (.agg (v8c64 v)) (.int .i64 3)).run Tryz.prog w = .ok (.int .u64 (v.list.getD 3 0 : Nat)) w := by kernel_rfl
 have h4 : (Instr.index 110 (.agg (v8c64 v)) (.int .i64 4)).run Tryz.prog w = .ok (.int .u64 (v.list.getD 4 0 : Nat)) w := by kernel_rfl
 have h5 : (Instr.index 110 (.agg (v8c64 v)) (.int .i64 5)).run Tryz.prog w = .ok (.int .u64 (v.list.getD 5 0 : Nat)) w := by kernel_rfl
 have h6 : (Instr.index 110 (.agg (v8c64 v)) (.int .i64 6)).run Tryz.prog w = .ok (.int .u64 (v.list.getD 6 0 : Nat)) w := by kernel_rfl
 have h7 : (Instr.index 110 (.agg (v8c64 v)) (.int .i64 7)).run Tryz.prog w = .ok (.int .u64 (v.list.getD 7 0 : Nat)) w := by kernel_rfl
 match k, hk with
 | 0, _ => exact h0
 | 1, _ => exact h1
 | 2, _ => exact h2
 | 3, _ => exact h3
 | 4, _ => exact h4
 | 5, _ => exact h5
 | 6, _ => exact h6
 | 7, _ => exact h7
set_option maxRecDepth 100000 in
set_option maxHeartbeats 2000000 in
theorem bytes64_any (v : V8) (w : World) :
   Calls Tryz.prog 87 #[.agg (v8c64 v), .int .i64 64] w fun e w' => e = .returned (.string ⟨(v.list.flatMap fun x => bytesOf x 8).toArray⟩) ∧ Below w.heap.size w w' := by
 have hb0 : Below w.heap.size w (w.alloc (.cells (v8c64 v) 110)) := (Below.refl _ _).alloc (Nat.le_refl _) _
 have hown := World.ownsRow_nil (w.alloc (.cells (v8c64 v) 110)) w.heap.size 5 1
 have HOWN := Box.mk hown; have HB0 := Box.mk hb0; clear hown hb0
 have hix := idx64 110 rfl v
 have HIX := Box.mk hix; clear hix
 obtain ⟨L, hL⟩ : ∃ L : List Nat, L = v.list := ⟨_, rfl⟩
 have hLl : L.length = 8 := by rw [hL]; rfl
 rw [← hL] at HIX ⊢
 clear hL
 unfold v8c64
 go_enter Tryz.func87, Tryz.ntmps87
 go_wp2_with fail
 go_loopw [5, 10] (fun b i wr => ∃ n : Nat, n ≤ 8 ∧ i = .int .i64 n ∧ wr.ownsRow w.heap.size 5 1 b (8 * n) (((L.take n).flatMap fun x => bytesOf x 8).map byv) ∧ (n ≠ 0 → b ≠ .slice none 0 0) ∧ Below w.heap.size w wr ∧ w.heap.size ≤ wr.heap.size) (fun _ i _ => (8 - intOf i).toNat)
 case atStart => exact ⟨0, by omega, rfl, HOWN.out, by simp, HB0.out, by simp⟩
 case round =>
   clear HOWN HB0
   obtain ⟨n, hn, rfl, hown, hnn, hbel, hsz⟩ := hrel
   by_cases hlt : n < 8
   · have hnI : (n : Int) < 8 := by omega
     have hix := HIX.out n hlt
     have hsn : L.take (n + 1) = L.take n ++ [L.getD n 0] := take_snoc' L n (by omega)
     generalize L.getD n 0 = x at hix hsn
     have HSN := Box.mk hsn; have HB := Box.mk hbel; have HOWN := Box.mk hown
     clear hsn hbel hown hnn
     unfold v8c64 at hix
     go_wp2_with fail
     clear hix
     obtain ⟨wo, rfl⟩ : ∃ wo : World, wo = wr := ⟨_, rfl⟩
     go_loopw [5, 8] (fun b k wr => ∃ j : Nat, j ≤ 8 ∧ k = .int .i64 (56 - 8 * (j : Int)) ∧ wr.ownsRow w.heap.size 5 1 b (8 * n + j) ((((L.take n).flatMap fun x => bytesOf x 8) ++ (bytesOf x 8).take j).map byv) ∧ (j ≠ 0 → b ≠ .slice none 0 0) ∧ Below w.heap.size w wr ∧ w.heap.size ≤ wr.heap.size) (fun _ k _ => (intOf k + 8).toNat)
     case atStart => exact ⟨0, by omega, rfl, by simpa using HOWN.out, by simp, HB.out, hsz⟩
     case round =>
       clear HOWN HB hsz
       obtain ⟨j, hj, rfl, hown, hnn, hbel, hsz⟩ := hrel
       by_cases hjl : j < 8
       · obtain ⟨c, hc⟩ : ∃ c : Nat, c = 56 - 8 * j := ⟨_, rfl⟩
         have hcI : 56 - 8 * (j : Int) = (c : Int) := by omega
         have hc0 : (0 : Int) ≤ (c : Int) := by omega
         have HOWN := Box.mk hown; have HB := Box.mk hbel
         have hy := shift_byte x c (8 - 1 - j) (by omega)
         have hst := bytesOf_step x 8 j hjl
         have HST := Box.mk hst
         have HY := Box.mk hy
         clear hown hbel hnn hc hy hst
         go_wp2_with (at_builtin; refine wpList_append1 (w := wr) rfl (.tmp 19) (.tmp 24) 29 rfl w.heap.size 5 (.int .u8 0) 1 Tryz.underlying29 (by kernel_rfl) rfl u5 (8 * n + j) ((((L.take n).flatMap fun x => bytesOf x 8) ++ (bytesOf x 8).take j).map byv) rfl HOWN.out HB.out hsz (.int .u8 ((x : Int) / 2 ^ c % 256)) rfl rfl (by omega) (by omega) ?_)
         intro v' w1 hown' hbel' hsz' _ hnn'
         have HOWN2 := Box.mk hown'; have HB2 := Box.mk hbel'; have HNN2 := Box.mk hnn'
         clear hown' hbel' hnn' HOWN HB
         go_wp2
         go_roundw
         case rel => exact ⟨j + 1, by omega, int_congr (by omega), by rw [HST.out]; rw [HY.out] at HOWN2; simpa [← Nat.add_assoc] using HOWN2.out, fun _ => HNN2.out, HB2.out, hsz'⟩
         case measure => simp [intOf]; omega
       · obtain rfl : j = 8 := by omega
         rw [(List.take_of_length_le (by rw [bytesOf_len]; exact Nat.le_refl _) : (bytesOf x 8).take 8 = bytesOf x 8)] at hown
         have HOWN := Box.mk hown; have HB := Box.mk hbel; have HNN := Box.mk hnn
         clear hown hbel hnn
         go_wp2
         go_roundw
         case rel => exact ⟨n + 1, by omega, by go_num, by rw [HSN.out, List.flatMap_append, Nat.mul_add, Nat.mul_one]; simpa using HOWN.out, fun _ => HNN.out (by omega), HB.out, hsz⟩
         case measure => simp [intOf]; omega
   · obtain rfl : n = 8 := by omega
     rw [List.take_of_length_le (by omega)] at hown
     have hcv := run_str_owned (P := Tryz.prog) (dst := 9) hown (hnn (by omega)) Tryz.underlying29 Tryz.underlying5 Tryz.underlying9
     have HB := Box.mk hbel
     clear hown hbel hnn
     go_wp2
     go_ret
     exact ⟨rfl, HB.out⟩
end Go.Proofs.YtafhncpaoolljaaGreat
