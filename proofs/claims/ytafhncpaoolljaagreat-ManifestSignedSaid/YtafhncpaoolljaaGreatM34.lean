/- The document's answer on scalars: Digits. The curve's laws: the sum of two numbers of 32 bytes; numbers modulo the order. The package sign: what each call answers. Signatures, plainly; the calls whose answers the document fixes. -/
import Derived.Test.YtafhncpaoolljaaGreatM33
import Derived.Test.YtafhncpaoolljaaGreatM13
import Derived.Test.YtafhncpaoolljaaGreatM16
namespace Go.Proofs.YtafhncpaoolljaaGreat
set_option maxRecDepth 100000
set_option linter.unusedVariables false
open Go Go.RowKit
def dvals (n c : Nat) : List Value := (List.range c).map fun j => Value.int .i64 (digit n j)
theorem dvals_get (n c j : Nat) (h : j < c) : (dvals n c)[j]? = some (.int .i64 (digit n j)) := by simp [dvals, h]
theorem dvals_snoc (n c v : Nat) (hn : n < 256 ^ c) (hv : v < 256) : dvals (n + 256 ^ c * v) (c + 1) = dvals n c ++ [.int .i64 (v : Int)] := by
 unfold dvals
 rw [List.range_succ, List.map_append]
 congr 1
 · apply List.map_congr_left
   intro j hj
   rw [digit_add n c v j hn hv, if_neg (by have := List.mem_range.1 hj; omega)]
 · simp [digit_add n c v c hn hv]
theorem leNat_take_lt (s : ByteArray) (k : Nat) (hk : k ≤ s.size) : leNat (s.data.toList.take k) < 256 ^ k := by
 have := leNat_lt (s.data.toList.take k)
 rwa [List.length_take, Nat.min_eq_left (by simpa using hk)] at this
theorem leNat_take_succ (s : ByteArray) (k : Nat) (hk : k < s.size) : leNat (s.data.toList.take (k + 1)) = leNat (s.data.toList.take k) + 256 ^ k * s[k].toNat := by
 rw [take_snoc s k hk, leNat_snoc, List.length_take, Nat.min_eq_left (by simpa using Nat.le_of_lt hk)]
theorem owned_row2 {w : World} {base n : Nat} {e : TypeId} {v : Value} {xs : List Value} (h : w.ownsRow base e 1 v n xs) (hn : v ≠ .slice none 0 0) :
   ∃ g cap, v = .slice (some ⟨g, 0, none⟩) n cap ∧ base ≤ g ∧ (∀ j u, xs[j]? = some u → w.cell? ⟨g, j, none⟩ = some u) ∧ g < w.heap.size := by
 have hc := fun g hg => h.cells (g := g) hg
 rcases h.2 with ⟨rfl, rfl⟩ | ⟨g, cap, cur, rfl, hbg, hg, hnc, _⟩
 · exact absurd rfl hn
 · refine ⟨g, cap, rfl, hbg, fun j u hu => ?_, (Array.getElem?_eq_some_iff.1 hg).1⟩
   have := hc g rfl j u hu
   rwa [addr_add] at this
set_option maxRecDepth 100000 in
set_option maxHeartbeats 1000000 in
theorem digits_any (s : ByteArray) (w : World) (hs : s.size ≤ 1000000) :
   Calls Tryz.prog 72 #[.string s] w fun e w' => ∃ b cap, w.heap.size ≤ b ∧ b < w'.heap.size ∧ e = .returned (.slice (some ⟨b, 0, none⟩) s.size cap) ∧ DRow w' b s.size (num s) ∧ Below w.heap.size w w' := by
 have HI := info_parts info_int
 go_enter Tryz.func72, Tryz.ntmps72
 go_wp2_with fail
 have hown0 := World.ownsRow_made (base := w.heap.size) (e := 3) (size := 1) w #[] 0 (Nat.le_refl _) (by omega) (by simp)
 go_loopw [3, 4] (fun v i wr => ∃ k : Nat, k ≤ s.size ∧ i = .int .i64 k ∧ wr.ownsRow w.heap.size 3 1 v k (dvals (leNat (s.data.toList.take k)) k) ∧ v ≠ .slice none 0 0 ∧ Below w.heap.size w wr) (fun _ i _ => s.size - (intOf i).toNat)
 case atStart => exact ⟨0, by omega, rfl, hown0, by simp, (Below.refl _ _).alloc (Nat.le_refl _) _⟩
 case round =>
   clear hown0
   obtain ⟨k, hk, rfl, hown, hnn, hbel⟩ := hrel
   obtain ⟨i0, hi, hz0, hz1, hz2⟩ := HI
   by_cases hlt : k < s.size
   · have hu := (s[k]).toNat_lt
     have HB := Box.mk hbel; clear hbel
     have HN := Box.mk hnn; clear hnn
     go_wp2_with (at_builtin; refine wpList_append_own _ rfl _ _ 100 rfl w.heap.size 3 i0 (.int .i64 0) 1 8 Tryz.underlying100 hi hz0 hz1 hz2 rfl (by decide) _ _ _ rfl (hown.alloc _) ⟨wr.heap.size, 0, none⟩ 1 1 [.int .i64 (s[k].toNat : Int)] rfl rfl ?c1 ?c2 ?c3 ?c4 ?c5 ?_)
     case c1 =>
       intro j u hj
       match j, hj with
       | 0, hj => simp at hj; subst hj; simp [Addr.add]
     case c2 => intro u hu; simp at hu; subst hu; rfl
     case c3 => unfold maxLen; omega
     case c4 => omega
     case c5 => have := HB.out.size; simp; omega
     intro v' w1 hown' hgrow hnil
     have hlo := hown.lt
     rw [← dvals_snoc _ _ _ (leNat_take_lt s k hk) hu, ← leNat_take_succ s k hlt] at hown'
     have hbel := (HB.out.alloc HB.out.size (.cells #[.int .i64 (s[k].toNat : Int)] 3)).grown hgrow (by have := HB.out.size; simp; omega) (fun t ht => (hlo t ht).1)
     clear hown hgrow HB hlo
     have HO := Box.mk hown'; clear hown'
     have HB := Box.mk hbel; clear hbel
     have HNN := Box.mk hnil; clear hnil
     go_wp2
     go_roundw
     case rel => exact ⟨k + 1, by omega, by go_num, HO.out, HNN.out, HB.out⟩
     case measure => simp [intOf]; omega
   · have hk2 : k = s.size := by omega
     subst hk2
     rw [List.take_of_length_le (by simp)] at hown
     have HO := Box.mk hown; clear hown
     have HB := Box.mk hbel; clear hbel
     have HNN := Box.mk hnn; clear hnn
     go_wp2
     go_ret
     obtain ⟨g, cap, rfl, hbg, hcells, hlt2⟩ := owned_row2 HO.out HNN.out
     exact ⟨g, cap, hbg, hlt2, rfl, fun j hj => hcells j _ (dvals_get _ _ _ hj), HB.out⟩
end Go.Proofs.YtafhncpaoolljaaGreat
namespace Go.Proofs.YtafhncpaoolljaaGreat.Fe
set_option maxRecDepth 100000
set_option linter.unusedVariables false
open Go Go.RowKit
theorem oL_ordL : oL = ordL := by unfold ordL; exact oL_eq
section
variable {P : Program} {W : World} {S : List Nat} {T : (World → Prop) → List Nat → Act → Prop} {L : List (Oper × Kd)} {F : World → Prop} {N : List Nat} {a : Act} {o : Oper}
theorem gm_convS {src dst : TypeId} (x : Operand) (ho : o.op = .convert src dst x) (v : Value) (hr : ∀ w, GrS S W w → (convert src dst (a.eval x)).run P w = .ok v w)
   (h : wpG P W S T L F N (a.put o.dst v)) : wpG P W S T ((o, .flo) :: L) F N a :=
 gm_flo v (fun w hw => by unfold execOp; simp only [ho, Sem.run_bind, hr w hw, Result.andThen_ok, Sem.run_pure]) h
end
theorem cell_same {w w' : World} {b : Nat} (h : w'.heap[b]? = w.heap[b]?) (j : Nat) : w'.cell? ⟨b, j, none⟩ = w.cell? ⟨b, j, none⟩ := by simp [World.cell?, h]
open Go Go.RowKit
def catL (L : List ByteArray) : List UInt8 := L.flatMap (·.data.toList)
theorem catL_snoc (L : List ByteArray) (s : ByteArray) : catL (L ++ [s]) = catL L ++ s.data.toList := by simp [catL]
def redL (l : List UInt8) : ByteArray := sc (Go.Proofs.YtafhncpaoolljaaGreat.num (sumS 1 l))
theorem redL_size (l : List UInt8) : (redL l).size = 32 := sc_size _
theorem size64 (l : List UInt8) : (sumS 1 l).size = 64 := by have := sumS_size 1 l (.inr rfl); omega
theorem rdc (s : ByteArray) (h : s.size ≤ 64) (w : World) : Calls Tryz.prog 45 #[.string s] w fun e w' => e = .returned (.tuple #[.string (sc (Go.Proofs.YtafhncpaoolljaaGreat.num s)), .int .i64 0]) ∧ Gr w w' :=
 (Go.Proofs.YtafhncpaoolljaaGreat.reduce_any s w).mono fun _ _ ⟨he, hg⟩ => ⟨by rw [he, if_pos h], hg⟩
theorem sad (a b : ByteArray) (ha : a.size = 32) (hb : b.size = 32) (w : World) : Calls Tryz.prog 20 #[.string a, .string b] w fun e w' => e = .returned (.tuple #[.string (sc (Go.Proofs.YtafhncpaoolljaaGreat.num a + Go.Proofs.YtafhncpaoolljaaGreat.num b)), .int .i64 0]) ∧ Gr w w' :=
 (Go.Proofs.YtafhncpaoolljaaGreat.add_any a b w).mono fun _ _ ⟨he, hg⟩ => ⟨by rw [he, if_pos ⟨ha, hb⟩], hg⟩
theorem sml (a b : ByteArray) (ha : a.size = 32) (hb : b.size = 32) (w : World) : Calls Tryz.prog 19 #[.string a, .string b] w fun e w' => e = .returned (.tuple #[.string (sc (Go.Proofs.YtafhncpaoolljaaGreat.num a * Go.Proofs.YtafhncpaoolljaaGreat.num b)), .int .i64 0]) ∧ Gr w w' :=
 (Go.Proofs.YtafhncpaoolljaaGreat.mul_any a b w).mono fun _ _ ⟨he, hg⟩ => ⟨by rw [he, if_pos ⟨ha, hb⟩], hg⟩
theorem sis (s : ByteArray) (w : World) : Calls Tryz.prog 35 #[.string s] w fun e w' => e = .returned (.bool (decide (s.size = 32 ∧ Go.Proofs.YtafhncpaoolljaaGreat.num s < ordL))) ∧ Gr w w' := Go.Proofs.YtafhncpaoolljaaGreat.is_any s w
theorem take_snoc' {α : Type} (L : List α) (k : Nat) (s : α) (h : L[k]? = some s) : L.take (k + 1) = L.take k ++ [s] := by
 rw [List.take_add_one, h]; rfl
theorem catL_len (L : List ByteArray) (k m : Nat) (h : ∀ s ∈ L, s.size ≤ m) : (catL (L.take k)).length ≤ k * m := by
 induction k with
 | zero => simp [catL]
 | succ k ih =>
   cases hk : L[k]? with
   | none => rw [List.take_of_length_le (by have := List.getElem?_eq_none_iff.1 hk; omega)]; rw [List.take_of_length_le (by have := List.getElem?_eq_none_iff.1 hk; omega)] at ih; rw [Nat.succ_mul]; omega
   | some s =>
     rw [take_snoc' L k s hk, catL_snoc, List.length_append, Nat.succ_mul]
     have := h s (List.mem_of_getElem? hk)
     have : s.data.toList.length = s.size := by simp
     omega
set_option maxRecDepth 100000 in
set_option maxHeartbeats 2000000 in
theorem red_any (L : List ByteArray) (g n cap : Nat) (hL : L.length = n) (hn : n ≤ 10) (hs : ∀ s ∈ L, s.size ≤ 2000) (w : World) (hc : ∀ j s, L[j]? = some s → w.cell? ⟨g, j, none⟩ = some (.string s)) (hg : g < w.heap.size) :
   Calls Tryz.prog 18 #[.slice (some ⟨g, 0, none⟩) n cap] w fun e w' => e = .returned (.string (redL (catL L))) ∧ Gr w w' := by
 have HC := Box.mk hc; have HL := Box.mk hL; have HS := Box.mk hs
 clear hc hs hL
 go_enter Tryz.func18, Tryz.ntmps18
 go_wp2_with fail
 refine (newB_any 1 (.inr rfl) _).mono ?_
 rintro e w1 ⟨p, rfl, hp, hb, hg1⟩
 have HB := Box.mk hb
 have G := Box.mk (Gr.of hg1)
 have HC1 := Box.mk (fun j s h => (cell_same (hg1.block g hg) j).trans (HC.out j s h))
 have hgp : g ≠ p := by omega
 clear hb hg1 HC
 go_wp2_with fail
 go_loopw [15] (fun i wr => ∃ k : Nat, k ≤ n ∧ i = .int .i64 k ∧ HasB 1 wr p (catL (L.take k)) ∧ (∀ j s, L[j]? = some s → wr.cell? ⟨g, j, none⟩ = some (.string s)) ∧ g < wr.heap.size ∧ Gr w wr) (fun i _ => n - (intOf i).toNat)
 case atStart => exact ⟨0, by omega, rfl, HB.out, HC1.out, Nat.lt_of_lt_of_le hg G.out.size, G.out⟩
 case round =>
   clear HB HC1 G
   obtain ⟨k, hk, rfl, hb, hc, hgl, hgr⟩ := hrel
   have HB := Box.mk hb; have HC1 := Box.mk hc; have G := Box.mk hgr
   clear hb hc hgr
   by_cases hlt : k < n
   · have hkI : (k : Int) < (n : Int) := by omega
     obtain ⟨s, hsk⟩ : ∃ s, L[k]? = some s := ⟨L[k]'(by rw [HL.out]; exact hlt), List.getElem?_eq_getElem _⟩
     have hcell := HC1.out k s hsk
     have HSK := Box.mk hsk
     have hsz := HS.out s (List.mem_of_getElem? hsk)
     have hlen := catL_len L k 2000 HS.out
     have HLN := Box.mk (show (catL (L.take k)).length ≤ 500000 by have : k * 2000 ≤ 10 * 2000 := Nat.mul_le_mul (by omega) (Nat.le_refl _); omega)
     have HSZ := Box.mk (show s.size ≤ 500000 by omega)
     clear hsk hsz hlen
     go_wp2_with fail
     refine (writeB_any 1 p _ s _ HB.out HSZ.out HLN.out).mono ?_
     rintro e w3 ⟨rfl, hb3, hu⟩
     rw [← catL_snoc, ← take_snoc' L k s HSK.out] at hb3
     have HB3 := Box.mk hb3
     have HU := Box.mk hu
     clear hb3 hu hcell
     go_wp2
     refine ⟨⟨k + 1, by omega, by go_num, HB3.out, fun j t hj => (cell_same (HU.out.block g hgl (by simpa using hgp)) j).trans (HC1.out j t hj), Nat.lt_of_lt_of_le hgl HU.out.size, ?_⟩, by simp [intOf]; omega⟩
     exact Upd.below G.out HU.out (by simpa using hp) G.out.size
   · obtain rfl : k = n := by omega
     have hall : L.take k = L := List.take_of_length_le (by rw [HL.out]; exact Nat.le_refl _)
     rw [hall] at HB
     have hlen := catL_len L k 2000 HS.out
     rw [hall] at hlen
     have HLN := Box.mk (show (catL L).length ≤ 900000 by have : k * 2000 ≤ 10 * 2000 := Nat.mul_le_mul (by omega) (Nat.le_refl _); omega)
     clear hall hlen HC1 hlt
     go_wp2_with fail
     refine (sumB_any 1 p _ _ HB.out HLN.out).mono ?_
     rintro e w4 ⟨rfl, hg4⟩
     replace G := Box.mk (G.out.trans (Gr.of hg4)); clear hg4
     go_wp2_with fail
     refine (rdc _ (by rw [size64]; omega) _).mono ?_
     rintro e w5 ⟨rfl, hg5⟩
     replace G := Box.mk (G.out.trans hg5); clear hg5
     go_wp2
     go_ret
     exact ⟨rfl, G.out⟩
def secL (l : List UInt8) : List UInt8 := (l.set 0 (l.getD 0 0 &&& 248)).set 31 ((l.getD 31 0 &&& 63) ||| 64)
def hashS (s : ByteArray) : ByteArray := sumS 1 s.data.toList
def secS (s : ByteArray) : ByteArray := ⟨(secL (hashS s |>.data.toList.take 32)).toArray⟩
def preS (s : ByteArray) : ByteArray := (hashS s).extract 32 64
theorem secS_size (s : ByteArray) : (secS s).size = 32 := by
 have h := size64 s.data.toList
 show (secL ((sumS 1 s.data.toList).data.toList.take 32)).toArray.size = 32
 have : (sumS 1 s.data.toList).data.toList.length = 64 := by rw [← h]; simp
 simp [secL, this]
theorem u8_and248 (c : UInt8) : bits .and .u8 (c.toNat : Int) 248 = ((c &&& 248).toNat : Int) := by
 have : ∀ n : Fin 256, bits .and .u8 (n.val : Int) 248 = (((UInt8.ofNat n.val) &&& 248).toNat : Int) := by decide +kernel
 have h := this ⟨c.toNat, c.toNat_lt⟩
 simpa using h
theorem u8_and63 (c : UInt8) : bits .and .u8 (c.toNat : Int) 63 = ((c &&& 63).toNat : Int) := by
 have : ∀ n : Fin 256, bits .and .u8 (n.val : Int) 63 = (((UInt8.ofNat n.val) &&& 63).toNat : Int) := by decide +kernel
 have h := this ⟨c.toNat, c.toNat_lt⟩
 simpa using h
theorem u8_or64 (c : UInt8) : bits .or .u8 (c.toNat : Int) 64 = ((c ||| 64).toNat : Int) := by
 have : ∀ n : Fin 256, bits .or .u8 (n.val : Int) 64 = (((UInt8.ofNat n.val) ||| 64).toNat : Int) := by decide +kernel
 have h := this ⟨c.toNat, c.toNat_lt⟩
 simpa using h
theorem results_tmp3 {fn : Func} {t u v : Tmp} (h : fn.results = #[.tmp t, .tmp u, .tmp v]) (tmps : Array Value) (P : Program) (w : World) :
   (results fn tmps).run P w = .ok (.tuple #[tmps.getD t undef, tmps.getD u undef, tmps.getD v undef]) w := by
 simp [results, h]
theorem run_lo32 {s : ByteArray} (hs : s.size = 64) (w : World) : (Instr.sliceAt 9 (.string s) none (some (.int .i64 32)) none).run Tryz.prog w = .ok (.string (s.extract 0 32)) w := by
 rw [run_sliceAt_string _ _ _ _ _ _ Tryz.underlying9]
 simp [Instr.slice, Instr.sliceBounds, Instr.sliceBound, asIntOf, run_underlying Tryz.underlying9, hs]
theorem run_hi32 {s : ByteArray} (hs : s.size = 64) (w : World) : (Instr.sliceAt 9 (.string s) (some (.int .i64 32)) none none).run Tryz.prog w = .ok (.string (s.extract 32 64)) w := by
 rw [run_sliceAt_string _ _ _ _ _ _ Tryz.underlying9]
 simp [Instr.slice, Instr.sliceBounds, Instr.sliceBound, asIntOf, run_underlying Tryz.underlying9, hs]
theorem lo_size {s : ByteArray} (hs : s.size = 64) : (s.extract 0 32).size = 32 := by simp [ByteArray.size_extract, hs]
theorem hi_size {s : ByteArray} (hs : s.size = 64) : (s.extract 32 64).size = 32 := by simp [ByteArray.size_extract, hs]
theorem lo_list (s : ByteArray) : (s.extract 0 32).data.toList = s.data.toList.take 32 := by simp [ByteArray.data_extract, List.extract_eq_take_drop]
theorem cells2 (w : World) (a b : ByteArray) (t : TypeId) : ∀ (j : Nat) (s : ByteArray), [a, b][j]? = some s → (w.alloc (.cells #[.string a, .string b] t)).cell? ⟨w.heap.size, j, none⟩ = some (.string s) := fun j s h => by
 rw [cell_of_row _ _ _ _ _ _ (heap_alloc_new w _)]
 match j, h with
 | 0, h => simp at h; subst h; rfl
 | 1, h => simp at h; subst h; rfl
theorem cells3 (w : World) (a b c : ByteArray) (t : TypeId) : ∀ (j : Nat) (s : ByteArray), [a, b, c][j]? = some s → (w.alloc (.cells #[.string a, .string b, .string c] t)).cell? ⟨w.heap.size, j, none⟩ = some (.string s) := fun j s h => by
 rw [cell_of_row _ _ _ _ _ _ (heap_alloc_new w _)]
 match j, h with
 | 0, h => simp at h; subst h; rfl
 | 1, h => simp at h; subst h; rfl
 | 2, h => simp at h; subst h; rfl
theorem red2 (a b : ByteArray) (ha : a.size ≤ 2000) (hb : b.size ≤ 2000) (w : World) : Calls Tryz.prog 18 #[.slice (some ⟨w.heap.size, 0, none⟩) 2 2] (w.alloc (.cells #[.string a, .string b] 9)) fun e w' => e = .returned (.string (redL (catL [a, b]))) ∧ Gr w w' :=
 (red_any [a, b] w.heap.size 2 2 rfl (by omega) (fun s h => by
   simp only [List.mem_cons, List.not_mem_nil, or_false] at h
   rcases h with rfl | rfl <;> assumption) _ (cells2 w a b _) (by simp)).mono fun _ _ ⟨he, hg⟩ => ⟨he, (Gr.alloc _ _).trans hg⟩
theorem red3 (a b c : ByteArray) (ha : a.size ≤ 2000) (hb : b.size ≤ 2000) (hc : c.size ≤ 2000) (w : World) : Calls Tryz.prog 18 #[.slice (some ⟨w.heap.size, 0, none⟩) 3 3] (w.alloc (.cells #[.string a, .string b, .string c] 9)) fun e w' => e = .returned (.string (redL (catL [a, b, c]))) ∧ Gr w w' :=
 (red_any [a, b, c] w.heap.size 3 3 rfl (by omega) (fun s h => by
   simp only [List.mem_cons, List.not_mem_nil, or_false] at h
   rcases h with rfl | rfl | rfl <;> assumption) _ (cells3 w a b c _) (by simp)).mono fun _ _ ⟨he, hg⟩ => ⟨he, (Gr.alloc _ _).trans hg⟩
set_option maxRecDepth 100000 in
set_option maxHeartbeats 4000000 in
theorem parts_yes (s : ByteArray) (hs : s.size = 32) (w : World) : Calls Tryz.prog 13 #[.string s] w fun e w' => e = .returned (.tuple #[.string (secS s), .string (preS s), .bool true]) ∧ Gr w w' := by
 have hsI : (s.size : Int) = 32 := by omega
 have HONE := Box.mk (fun v => oneB_any 1 (.inr rfl) s (by omega) v)
 obtain ⟨H, hH⟩ : ∃ H, H = sumS 1 s.data.toList := ⟨_, rfl⟩
 have HSZ := Box.mk (show H.size = 64 from by rw [hH]; exact size64 _)
 have ESEC := Box.mk (show secS s = ⟨(secL (H.data.toList.take 32)).toArray⟩ from by rw [hH]; rfl)
 have EPRE := Box.mk (show preS s = H.extract 32 64 from by rw [hH]; rfl)
 rw [← hH] at HONE
 clear hH hs
 go_enter Tryz.func13, Tryz.ntmps13
 go_wp2_with fail
 refine (HONE.out _).mono ?_
 rintro e w1 ⟨rfl, k⟩
 have G := Box.mk (Gr.of k); clear k HONE
 go_upto_region 4 with (fail)
 try go_frame
 refine wp_region_seq 2 [.flo, .flo] (by rfl) rfl (by decide) ?_
 simp only [List.take, List.zip, List.zipWith]
 refine gm_move (.tmp 5) (.inl rfl) (.string H) rfl ?_
 try go_frame
 refine gm_slice (.tmp 16) none (some (.const (.int .i64 32))) none rfl (.string (H.extract 0 32)) (run_lo32 HSZ.out) ?_
 try go_frame
 refine gm_nil ?_
 intro W1 hw7 _
 simp only [List.drop]
 try go_frame
 replace G := Box.mk (G.out.trans hw7); clear hw7
 have hlo := lo_size HSZ.out
 obtain ⟨cap, C, fr, hcv, hown⟩ := run_tobytes (P := Tryz.prog) 9 29 5 (H.extract 0 32) Tryz.underlying9 Tryz.underlying29 Tryz.underlying5 (by omega) w.heap.size W1 (G.out.size)
 obtain ⟨W2, hW2⟩ : ∃ W, W = (W1.alloc (.cells C 5 fr)).drew := ⟨_, rfl⟩
 rw [← hW2] at hcv
 have hg2 : Gr W1 W2 := by rw [hW2]; exact bdrewN (Gr.alloc W1 _) 1
 obtain ⟨bb, hbb⟩ : ∃ b, b = W1.heap.size := ⟨_, rfl⟩
 rw [← hbb] at hcv hown
 rw [hlo] at hcv hown
 obtain ⟨L, hL⟩ : ∃ L, L = H.data.toList.take 32 := ⟨_, rfl⟩
 rw [lo_list, ← hL] at hown
 have hLl : L.length = 32 := by rw [hL, List.length_take]; have : H.data.toList.length = 64 := by rw [← HSZ.out]; simp
                                omega
 have OW := Box.mk (show Own W2 w.heap.size 5 (.slice (some ⟨bb, 0, none⟩) 32 cap) 32 (L.map byv) from by rw [hW2]; exact hown.drew)
 go_upto_region 5 with (fail)
 try go_frame
 rw [← hW2, ← hbb]
 replace G := Box.mk (G.out.trans hg2)
 have hbge : w.heap.size ≤ bb := (OW.out.lt _ rfl).1
 clear hcv hown hg2 hW2 hbb hlo
 obtain ⟨c0, h0⟩ : ∃ c, L[0]? = some c := ⟨L[0], List.getElem?_eq_getElem (by omega)⟩
 obtain ⟨c1, h1⟩ : ∃ c, L[31]? = some c := ⟨L[31], List.getElem?_eq_getElem (by omega)⟩
 have i0 : (L.map byv)[0]? = some (byv c0) := by rw [List.getElem?_map, h0]; rfl
 obtain ⟨hc, hf⟩ := Own.at OW.out 0 _ i0
 obtain ⟨d0, hd0⟩ : ∃ d, d = c0 &&& 248 := ⟨_, rfl⟩
 have hand := u8_and248 c0
 rw [← hd0] at hand
 have HD0 := Box.mk hd0; clear hd0
 have hset := Own.set OW.out 0 (byv d0) (by omega)
 rw [← List.map_set] at hset
 unfold byv at hc
 obtain ⟨W3, hW3⟩ : ∃ W, W = W2.setCell ⟨bb, 0, none⟩ (.int .u8 (d0.toNat : Int)) := ⟨_, rfl⟩
 have OW3 := Box.mk (show Own W3 w.heap.size 5 (.slice (some ⟨bb, 0, none⟩) 32 cap) 32 ((L.set 0 d0).map byv) from by rw [hW3]; exact hset)
 clear hset i0
 go_upto_region 6 with (fail)
 try go_frame
 rw [← hW3]
 replace G := Box.mk (show Gr w W3 from by rw [hW3]; exact G.out.setCell hbge _)
 clear hW3 hc hf hand OW
 have i1 : ((L.set 0 d0).map byv)[31]? = some (byv c1) := by rw [List.getElem?_map, List.getElem?_set_ne (by omega), h1]; rfl
 obtain ⟨hc, hf⟩ := Own.at OW3.out 31 _ i1
 obtain ⟨e1, he1⟩ : ∃ d, d = c1 &&& 63 := ⟨_, rfl⟩
 obtain ⟨d1, hd1⟩ : ∃ d, d = e1 ||| 64 := ⟨_, rfl⟩
 have hand := u8_and63 c1
 have hor := u8_or64 e1
 rw [← he1] at hand
 rw [← hd1] at hor
 have HE1 := Box.mk he1; have HD1 := Box.mk hd1; clear he1 hd1
 have hset := Own.set OW3.out 31 (byv d1) (by omega)
 rw [← List.map_set] at hset
 unfold byv at hc
 obtain ⟨W4, hW4⟩ : ∃ W, W = W3.setCell ⟨bb, 31, none⟩ (.int .u8 (d1.toNat : Int)) := ⟨_, rfl⟩
 have OW4 := Box.mk (show Own W4 w.heap.size 5 (.slice (some ⟨bb, 0, none⟩) 32 cap) 32 (((L.set 0 d0).set 31 d1).map byv) from by rw [hW4]; exact hset)
 clear hset i1
 go_upto_region 7 with (fail)
 try go_frame
 rw [← hW4]
 replace G := Box.mk (show Gr w W4 from by rw [hW4]; exact G.out.setCell hbge _)
 clear hW4 hc hf hand hor OW3
 have hsec : (⟨((L.set 0 d0).set 31 d1).toArray⟩ : ByteArray) = secS s := by
   rw [ESEC.out, ← hL]
   unfold secL
   rw [List.getD_eq_getElem?_getD, List.getD_eq_getElem?_getD, h0, h1]
   simp only [Option.getD_some]
   rw [← HD0.out, ← HE1.out, ← HD1.out]
 obtain ⟨sc', hsc⟩ : ∃ t, t = secS s := ⟨_, rfl⟩
 rw [← hsc] at hsec
 have HSC := Box.mk hsc; clear hsc
 refine wp_region_mix 6 [.flo, .flo, .flo, .flo, .flo, .flo] (by kernel_rfl) (by kernel_rfl) rfl ?_
 simp only [List.take, List.zip, List.zipWith]
 refine gm_move (.tmp 7) (.inl rfl) (.slice (some ⟨bb, 0, none⟩) 32 cap) rfl ?_
 try go_frame
 refine gm_convS (.tmp 31) rfl (.string sc') (fun wc hwc => by
   have hst := run_str_Own (P := Tryz.prog) (src := 29) (dst := 9) (OW4.out.drew.below (GrS.toGr hwc)) (by intro h; cases h) Tryz.underlying29 Tryz.underlying5 Tryz.underlying9
   rw [hsec] at hst
   exact hst) ?_
 try go_frame
 refine gm_move (.tmp 5) (.inl rfl) (.string H) rfl ?_
 try go_frame
 refine gm_slice (.tmp 33) (some (.const (.int .i64 32))) none none rfl (.string (H.extract 32 64)) (run_hi32 HSZ.out) ?_
 try go_frame
 refine gm_move (.tmp 32) (.inr rfl) (.string sc') rfl ?_
 try go_frame
 refine gm_move (.tmp 34) (.inr rfl) (.string (H.extract 32 64)) rfl ?_
 try go_frame
 refine gm_nil ?_
 intro W5 hw7 _
 simp only [List.drop]
 try go_frame
 replace G := Box.mk (G.out.trans (Gr.trans (show Gr W4 W4.drew from (Below.refl _ _).drew) hw7)); clear hw7
 go_wp2_with fail
 refine bodyPost_ret (results_tmp3 rfl _ _ _) rfl ⟨?_, G.out⟩
 rw [EPRE.out, ← HSC.out]; rfl
set_option maxRecDepth 100000 in
set_option maxHeartbeats 4000000 in
theorem parts_no (s : ByteArray) (hs : s.size ≠ 32) (w : World) : Calls Tryz.prog 13 #[.string s] w fun e w' => e = .returned (.tuple #[.string ⟨#[]⟩, .string ⟨#[]⟩, .bool false]) ∧ Gr w w' := by
 have hs' : ((s.size : Int) == 32) = false := by rw [beq_eq_false_iff_ne]; omega
 clear hs
 go_enter Tryz.func13, Tryz.ntmps13
 go_wp2
 exact bodyPost_ret (results_tmp3 rfl _ _ _) rfl ⟨rfl, Gr.refl _⟩
set_option maxRecDepth 100000 in
set_option maxHeartbeats 4000000 in
theorem public_yes (s : ByteArray) (hs : s.size = 32) (w : World) : Calls Tryz.prog 5 #[.string s] w fun e w' => ∃ t, Box (Pt t (CP.base.mul (Go.Proofs.YtafhncpaoolljaaGreat.num (secS s)))) ∧ e = .returned (.tuple #[.string t, .int .i64 0]) ∧ Gr w w' := by
 have HP := Box.mk (parts_yes s hs)
 obtain ⟨a, ha⟩ : ∃ a, a = secS s := ⟨_, rfl⟩
 obtain ⟨b, hb⟩ : ∃ b, b = preS s := ⟨_, rfl⟩
 have HA := Box.mk (show a.size = 32 from by rw [ha]; exact secS_size s)
 rw [← ha, ← hb] at HP
 rw [← ha]
 clear ha hb hs
 go_enter Tryz.func5, Tryz.ntmps5
 go_wp2_with fail
 refine (HP.out _).mono ?_
 rintro e w1 ⟨rfl, k⟩
 have G := Box.mk (Gr.of k); clear k
 go_wp2_with fail
 refine (cbase _).mono ?_
 rintro e w2 ⟨B, HB, rfl, k⟩
 replace G := Box.mk (G.out.trans k); clear k
 go_wp2_with fail
 refine (cmul HB.out HA.out _).mono ?_
 rintro e w3 ⟨T, HT, rfl, k⟩
 replace G := Box.mk (G.out.trans k); clear k
 go_wp2
 go_ret2
 exact ⟨T, HT, rfl, G.out⟩
set_option maxRecDepth 100000 in
set_option maxHeartbeats 4000000 in
theorem public_no (s : ByteArray) (hs : s.size ≠ 32) (w : World) : Calls Tryz.prog 5 #[.string s] w fun e w' => e = .returned (.tuple #[.string ⟨#[]⟩, .int .i64 70]) ∧ Gr w w' := by
 have HP := Box.mk (parts_no s hs)
 clear hs
 go_enter Tryz.func5, Tryz.ntmps5
 go_wp2_with fail
 refine (HP.out _).mono ?_
 rintro e w4 ⟨rfl, k⟩
 have G := Box.mk (Gr.of k); clear k
 go_wp2
 go_ret2
 exact ⟨rfl, G.out⟩
structure SigOf (s m t : ByteArray) : Prop where
 mk' : ∃ R K S : ByteArray, t = R ++ S ∧ Pt R (CP.base.mul (Go.Proofs.YtafhncpaoolljaaGreat.num (redL (catL [preS s, m])))) ∧ Pt K (CP.base.mul (Go.Proofs.YtafhncpaoolljaaGreat.num (secS s))) ∧
   S = sc (Go.Proofs.YtafhncpaoolljaaGreat.num (redL (catL [preS s, m])) + Go.Proofs.YtafhncpaoolljaaGreat.num (sc (Go.Proofs.YtafhncpaoolljaaGreat.num (redL (catL [R, K, m])) * Go.Proofs.YtafhncpaoolljaaGreat.num (secS s))))
set_option maxRecDepth 100000 in
set_option maxHeartbeats 4000000 in
theorem sign_yes (s m : ByteArray) (hs : s.size = 32) (hm : m.size ≤ 1000) (w : World) : Calls Tryz.prog 8 #[.string s, .string m] w fun e w' => ∃ t, Box (SigOf s m t) ∧ e = .returned (.tuple #[.string t, .int .i64 0]) ∧ Gr w w' := by
 have HP := Box.mk (parts_yes s hs); have HPU := Box.mk (public_yes s hs); have HM := Box.mk hm
 obtain ⟨a, ha⟩ : ∃ a, a = secS s := ⟨_, rfl⟩
 obtain ⟨b, hb⟩ : ∃ b, b = preS s := ⟨_, rfl⟩
 have HA := Box.mk (show a.size = 32 from by rw [ha]; exact secS_size s)
 have HB := Box.mk (show b.size = 32 from by rw [hb]; exact hi_size (size64 _))
 have EA := Box.mk ha; have EB := Box.mk hb
 rw [← ha] at HPU
 rw [← ha, ← hb] at HP
 clear ha hb hs hm
 go_enter Tryz.func8, Tryz.ntmps8
 go_wp2_with fail
 refine (HP.out _).mono ?_
 rintro e w5 ⟨rfl, k⟩
 have G := Box.mk (Gr.of k); clear k
 go_wp2_with fail
 refine (HPU.out _).mono ?_
 rintro e w6 ⟨K, HK, rfl, k⟩
 replace G := Box.mk (G.out.trans k); clear k
 go_wp2_with fail
 refine (red2 b m (by have := HB.out; omega) (by have := HM.out; omega) _).mono ?_
 rintro e w7 ⟨rfl, k⟩
 replace G := Box.mk (G.out.trans k); clear k
 obtain ⟨r, hr⟩ : ∃ r, r = redL (catL [b, m]) := ⟨_, rfl⟩
 rw [← hr]
 have HR := Box.mk (show r.size = 32 from by rw [hr]; exact redL_size _); have ER := Box.mk hr
 clear hr
 go_wp2_with fail
 refine (cbase _).mono ?_
 rintro e w8 ⟨B0, HB0, rfl, k⟩
 replace G := Box.mk (G.out.trans k); clear k
 go_wp2_with fail
 refine (cmul HB0.out HR.out _).mono ?_
 rintro e w9 ⟨R, HRP, rfl, k⟩
 replace G := Box.mk (G.out.trans k); clear k
 go_wp2_with fail
 refine (red3 R K m (by have := HRP.out.size; omega) (by have := HK.out.size; omega) (by have := HM.out; omega) _).mono ?_
 rintro e w10 ⟨rfl, k⟩
 replace G := Box.mk (G.out.trans k); clear k
 obtain ⟨h, hh⟩ : ∃ h, h = redL (catL [R, K, m]) := ⟨_, rfl⟩
 rw [← hh]
 have HH := Box.mk (show h.size = 32 from by rw [hh]; exact redL_size _); have EH := Box.mk hh
 clear hh
 go_wp2_with fail
 refine (sml h a HH.out HA.out _).mono ?_
 rintro e w11 ⟨rfl, k⟩
 replace G := Box.mk (G.out.trans k); clear k
 obtain ⟨q, hq⟩ : ∃ q, q = sc (Go.Proofs.YtafhncpaoolljaaGreat.num h * Go.Proofs.YtafhncpaoolljaaGreat.num a) := ⟨_, rfl⟩
 rw [← hq]
 have HQ := Box.mk (show q.size = 32 from by rw [hq]; exact sc_size _); have EQ := Box.mk hq
 clear hq
 go_wp2_with fail
 refine (sad r q HR.out HQ.out _).mono ?_
 rintro e w12 ⟨rfl, k⟩
 replace G := Box.mk (G.out.trans k); clear k
 obtain ⟨S, hS⟩ : ∃ z, z = sc (Go.Proofs.YtafhncpaoolljaaGreat.num r + Go.Proofs.YtafhncpaoolljaaGreat.num q) := ⟨_, rfl⟩
 rw [← hS]
 have ES := Box.mk hS
 have hRs := HRP.out.size
 have hSs : S.size = 32 := by rw [hS]; exact sc_size _
 have hadd : R.size + S.size ≤ 9223372036854775807 := by omega
 clear hS hRs hSs
 go_wp2
 go_ret2
 refine ⟨R ++ S, ⟨⟨R, K, S, rfl, ?_, ?_, ?_⟩⟩, rfl, G.out⟩
 · rw [← EB.out, ← ER.out]; exact HRP.out
 · rw [← EA.out]; exact HK.out
 · rw [← EB.out, ← ER.out, ← EA.out, ← EH.out, ← EQ.out]; exact ES.out
def VerP (key m sig : ByteArray) : Prop := ∃ A R : CP, Pt key A ∧ sig.size = 64 ∧ Pt (sig.extract 0 32) R ∧ Go.Proofs.YtafhncpaoolljaaGreat.num (sig.extract 32 64) < oL ∧
 CP.base.mul (Go.Proofs.YtafhncpaoolljaaGreat.num (sig.extract 32 64)) = R.add (A.mul (Go.Proofs.YtafhncpaoolljaaGreat.num (redL (catL [sig.extract 0 32, key, m]))))
set_option maxRecDepth 100000 in
set_option maxHeartbeats 4000000 in
theorem verify_any (key m sig : ByteArray) (hm : m.size ≤ 1000) (w : World) : Calls Tryz.prog 16 #[.string key, .string m, .string sig] w fun e w' => ∃ b, e = .returned (.bool b) ∧ (b = true ↔ VerP key m sig) ∧ Gr w w' := by
 have HM := Box.mk hm; clear hm
 by_cases hs : sig.size = 64
 ·
   have hsI : (sig.size : Int) = 64 := by omega
   have HS := Box.mk hs; clear hs
   rcases pt_or key with ⟨A, h⟩ | h
   ·
     have HA := Box.mk h; clear h
     obtain ⟨P, hP⟩ : ∃ P, P = sig.extract 0 32 := ⟨_, rfl⟩
     obtain ⟨S, hS⟩ : ∃ S, S = sig.extract 32 64 := ⟨_, rfl⟩
     have HP := Box.mk hP; have HSS := Box.mk hS
     have hPs : P.size = 32 := by rw [hP]; exact lo_size HS.out
     have hSs : S.size = 32 := by rw [hS]; exact hi_size HS.out
     have HPZ := Box.mk hPs; have HSZ := Box.mk hSs
     clear hPs hSs hP hS
     go_enter Tryz.func16, Tryz.ntmps16
     go_wp2_with fail
     refine (cis HA.out _).mono ?_
     rintro e w14 ⟨rfl, k⟩
     have G := Box.mk (Gr.of k); clear k
     go_upto_region 3 with (fail)
     try go_frame
     refine wp_region_mix 5 [.flo, .flo, .flo, .flo, .flo] (by kernel_rfl) (by kernel_rfl) rfl ?_
     simp only [List.take, List.zip, List.zipWith]
     refine gm_move (.tmp 2) (.inl rfl) (.string sig) rfl ?_
     try go_frame
     refine gm_slice (.tmp 23) none (some (.const (.int .i64 32))) none rfl (.string P) (by rw [HP.out]; exact run_lo32 HS.out) ?_
     try go_frame
     refine gm_move (.tmp 2) (.inl rfl) (.string sig) rfl ?_
     try go_frame
     refine gm_slice (.tmp 25) (some (.const (.int .i64 32))) none none rfl (.string S) (by rw [HSS.out]; exact run_hi32 HS.out) ?_
     try go_frame
     refine gm_move (.tmp 24) (.inr rfl) (.string P) rfl ?_
     try go_frame
     refine gm_nil ?_
     intro W1 hw7 _
     simp only [List.drop]
     try go_frame
     replace G := Box.mk (G.out.trans (Gr.trans (show Gr w14 w14.drew from (Below.refl _ _).drew) hw7)); clear hw7
     rcases pt_or P with ⟨R, h⟩ | h
     ·
       have HR := Box.mk h; clear h
       by_cases hlt : S.size = 32 ∧ Go.Proofs.YtafhncpaoolljaaGreat.num S < ordL
       ·
         have HIS := Box.mk (fun v => (decide_eq_true hlt) ▸ sis S v)
         have HLT := Box.mk (show Go.Proofs.YtafhncpaoolljaaGreat.num S < oL from by rw [oL_ordL]; exact hlt.2)
         clear hlt
         go_wp2_with fail
         refine (cis HR.out _).mono ?_
         rintro e w15 ⟨rfl, k⟩
         replace G := Box.mk (G.out.trans k); clear k
         go_wp2_with fail
         refine (HIS.out _).mono ?_
         rintro e w16 ⟨rfl, k⟩
         replace G := Box.mk (G.out.trans k); clear k
         go_wp2_with fail
         refine (cbase _).mono ?_
         rintro e w17 ⟨B0, HB0, rfl, k⟩
         replace G := Box.mk (G.out.trans k); clear k
         go_wp2_with fail
         refine (cmul HB0.out HSZ.out _).mono ?_
         rintro e w18 ⟨L, HL, rfl, k⟩
         replace G := Box.mk (G.out.trans k); clear k
         go_wp2_with fail
         refine (red3 P key m (by have := HPZ.out; omega) (by have := HA.out.size; omega) (by have := HM.out; omega) _).mono ?_
         rintro e w19 ⟨rfl, k⟩
         replace G := Box.mk (G.out.trans k); clear k
         obtain ⟨h, hh⟩ : ∃ h, h = redL (catL [P, key, m]) := ⟨_, rfl⟩
         rw [← hh]
         have HH := Box.mk (show h.size = 32 from by rw [hh]; exact redL_size _); have EH := Box.mk hh
         clear hh
         go_wp2_with fail
         refine (cmul HA.out HH.out _).mono ?_
         rintro e w20 ⟨K, HK, rfl, k⟩
         replace G := Box.mk (G.out.trans k); clear k
         go_wp2_with fail
         refine (cadd HR.out HK.out _).mono ?_
         rintro e w21 ⟨T, HT, rfl, k⟩
         replace G := Box.mk (G.out.trans k); clear k
         by_cases hq : CP.base.mul (Go.Proofs.YtafhncpaoolljaaGreat.num S) = R.add (A.mul (Go.Proofs.YtafhncpaoolljaaGreat.num h))
         ·
           have q1 : (L.toList == T.toList) = true := HL.out.same HT.out hq
           have HQ := Box.mk hq; clear hq
           go_wp2
           go_ret
           exact ⟨true, rfl, ⟨fun _ => ⟨A, R, HA.out, HS.out, HP.out ▸ HR.out, HSS.out ▸ HLT.out, by rw [← HP.out, ← HSS.out, ← EH.out]; exact HQ.out⟩, fun _ => rfl⟩, G.out⟩
         ·
           have q1 : (L.toList == T.toList) = false := HL.out.other HT.out hq
           have HQ := Box.mk hq; clear hq
           go_wp2
           go_ret
           refine ⟨false, rfl, ⟨(fun h => by cases h), fun ⟨A', R', h1, _, h2, _, h3⟩ => (HQ.out ?_).elim⟩, G.out⟩
           obtain rfl : A' = A := encP_inj (h1.eq.symm.trans HA.out.eq)
           rw [← HP.out] at h2 h3
           obtain rfl : R' = R := encP_inj (h2.eq.symm.trans HR.out.eq)
           rw [← HSS.out, ← EH.out] at h3
           exact h3
       ·
         have HIS := Box.mk (fun v => (decide_eq_false hlt) ▸ sis S v)
         have HLT := Box.mk hlt
         clear hlt
         go_wp2_with fail
         refine (cis HR.out _).mono ?_
         rintro e w22 ⟨rfl, k⟩
         replace G := Box.mk (G.out.trans k); clear k
         go_wp2_with fail
         refine (HIS.out _).mono ?_
         rintro e w23 ⟨rfl, k⟩
         replace G := Box.mk (G.out.trans k); clear k
         go_wp2
         go_ret
         refine ⟨false, rfl, ⟨(fun h => by cases h), fun ⟨_, _, _, _, _, h, _⟩ => (HLT.out ⟨HSZ.out, ?_⟩).elim⟩, G.out⟩
         rw [← HSS.out, oL_ordL] at h; exact h
     ·
       have HN := Box.mk h; clear h
       go_wp2_with fail
       refine (cis_no HN.out _).mono ?_
       rintro e w24 ⟨rfl, k⟩
       replace G := Box.mk (G.out.trans k); clear k
       go_wp2
       go_ret
       refine ⟨false, rfl, ⟨(fun h => by cases h), fun ⟨_, R, _, _, h, _⟩ => (HN.out R ?_).elim⟩, G.out⟩
       rw [HP.out]; exact h.eq.symm
   ·
     have HN := Box.mk h; clear h
     go_enter Tryz.func16, Tryz.ntmps16
     go_wp2_with fail
     refine (cis_no HN.out _).mono ?_
     rintro e w25 ⟨rfl, k⟩
     have G := Box.mk (Gr.of k); clear k
     go_wp2
     go_ret
     exact ⟨false, rfl, ⟨(fun h => by cases h), fun ⟨A, _, h, _⟩ => (HN.out A h.eq.symm).elim⟩, G.out⟩
 ·
   have hs' : ((sig.size : Int) == 64) = false := by rw [beq_eq_false_iff_ne]; omega
   have HS := Box.mk hs; clear hs
   go_enter Tryz.func16, Tryz.ntmps16
   go_wp2
   go_ret
   exact ⟨false, rfl, ⟨(fun h => by cases h), fun ⟨_, _, _, h, _⟩ => (HS.out h).elim⟩, Gr.refl _⟩
open Go Go.RowKit Go.Proofs.YtafhncpaoolljaaGreat.Sha
theorem cat_lo {a b : ByteArray} (h : a.size = 32) (hb : b.size = 32) : (a ++ b).extract 0 32 = a := by
 refine bytes_ext ?_
 have hl : a.data.toList.length = 32 := by rw [← h]; simp
 rw [lo_list, ByteArray.data_append, Array.toList_append]
 exact List.take_left' hl
theorem cat_hi {a b : ByteArray} (h : a.size = 32) (hb : b.size = 32) : (a ++ b).extract 32 64 = b := by
 refine bytes_ext ?_
 have hl : a.data.toList.length = 32 := by rw [← h]; simp
 have hl2 : b.data.toList.length = 32 := by rw [← hb]; simp
 rw [ByteArray.data_extract, Array.toList_extract, List.extract_eq_take_drop, ByteArray.data_append, Array.toList_append, List.drop_left' hl]
 exact List.take_of_length_le (by omega)
theorem cat_size {a b : ByteArray} (h : a.size = 32) (hb : b.size = 32) : (a ++ b).size = 64 := by rw [ByteArray.size_append]; omega
theorem base_congr {a b : Nat} (h : a % oL = b % oL) : CP.base.mul a = CP.base.mul b := by rw [← base_mod a, ← base_mod b, h]
theorem sig_num (r h a : Nat) : CP.base.mul (Go.Proofs.YtafhncpaoolljaaGreat.num (sc (r + Go.Proofs.YtafhncpaoolljaaGreat.num (sc (h * a))))) = (CP.base.mul r).add ((CP.base.mul a).mul h) := by
 rw [← CP.mul_mul, ← CP.mul_add, num_sc, num_sc]
 refine base_congr ?_
 rw [← oL_ordL, Nat.mod_mod, Nat.add_mod_mod, Nat.mul_comm]
theorem SigOf.ver {s m t K : ByteArray} (h : SigOf s m t) (hK : Pt K (CP.base.mul (Go.Proofs.YtafhncpaoolljaaGreat.num (secS s)))) : VerP K m t := by
 obtain ⟨R, K', S, rfl, hR, hK', hS⟩ := h.mk'
 obtain rfl : K' = K := hK'.eq.trans hK.eq.symm
 have hSs : S.size = 32 := by rw [hS]; exact sc_size _
 refine ⟨_, _, hK, cat_size hR.size hSs, by rw [cat_lo hR.size hSs]; exact hR, ?_, ?_⟩
 · rw [cat_hi hR.size hSs, hS, num_sc, oL_ordL]; exact Nat.mod_lt _ ordL_pos
 · rw [cat_hi hR.size hSs, cat_lo hR.size hSs]
   conv => lhs; rw [hS]
   exact sig_num _ _ _
@[irreducible] def secN : Nat := 36144925721603087658594284515452164870581325872720374094707712194495455132720
@[irreducible] def rN : Nat := 2015312323900227545039973048451112962192803170366412514267238242679089760755
@[irreducible] def hN : Nat := 1958233733501237659471134851339390337284068724042047466985993338226439154310
@[irreducible] def h2N : Nat := 7105053535885340757715205778169356927404386393052748833402476575000598598480
end Go.Proofs.YtafhncpaoolljaaGreat.Fe
