/- Manifest: the answers of fixed's calls, plainly. Manifest: Check of nothing. Manifest: the document's Same. Regions that draw their order and hold operations under guards: as the mixed walk, where each guard is decided on the way. Nothing of the program. Manifest: the statements' fixed. SHA-2 on plain numbers: words, blocks, sums; a sum that goes on. -/
import Derived.Test.YtafhncpaoolljaaGreatM03
import Derived.Test.YtafhncpaoolljaaGreatM04
import Derived.Test.YtafhncpaoolljaaGreatM02
import Derived.Lib.ConvBytes
namespace Go.Proofs.YtafhncpaoolljaaGreat
set_option maxRecDepth 100000
set_option linter.unusedVariables false
open Go Go.RowKit
def x0M : SM := ⟨⟨#[97]⟩, ⟨(List.replicate 32 (0 : UInt8)).toArray⟩⟩
theorem x0_may : x0M.May := ⟨rfl, by decide, by decide, by decide⟩
theorem x0_once1 : onceM [x0M] = true := rfl
theorem x0_once2 : onceM [x0M, x0M] = false := by unfold onceM; simp
theorem all_x0 (l : List SM) (h : ∀ x ∈ l, x = x0M) : ∀ x ∈ l, x.May := fun x hx => (h x hx) ▸ x0_may
theorem printM_x1 : printM 220 221 [x0M] = (textM [x0M], 0) := by
 unfold printM
 rw [if_neg (by simp), if_neg (by rw [(mays_iff _).2 (all_x0 _ (by simp))]; decide), if_neg (by rw [x0_once1]; decide)]
theorem printM_x2 : printM 220 221 [x0M, x0M] = ([], 221) := by
 unfold printM
 rw [if_neg (by simp), if_neg (by rw [(mays_iff _).2 (all_x0 _ (by simp))]; decide), if_pos x0_once2]
theorem prV_x1 : prV [x0M] = .tuple #[.string ⟨(textM [x0M]).toArray⟩, .int .i64 0] := by unfold prV; rw [printM_x1]
theorem prV_x2 : prV [x0M, x0M] = .tuple #[.string ⟨#[]⟩, .int .i64 221] := by unfold prV; rw [printM_x2]
theorem parse_x1 : parseM 220 221 (textM [x0M]) = ([x0M], 0) := print_parse (by decide) (by decide) printM_x1
theorem parse_x2 : parseM 220 221 (textM [x0M] ++ textM [x0M]) = ([], 221) := by
 have e : textM [x0M] ++ textM [x0M] = textM [x0M, x0M] := by unfold textM; simp
 rw [e]
 unfold parseM
 rw [linesM_text _ (all_x0 _ (by simp)) _ (Nat.lt_succ_self _)]
 dsimp only
 rw [printM_x2]; rfl
theorem parse_x0 : parseM 220 221 [] = ([], 220) := by
 rw [parseM_eq, lns_nil]
 dsimp only
 rw [printM_none]; rfl
theorem text_x : (textM [x0M]).length = 68 ∧ (textM [x0M]).drop 63 = [48, 32, 32, 97, 10] := by decide
theorem find_x : fndV [x0M] ⟨#[98]⟩ = .tuple #[.string ⟨#[]⟩, .int .i64 222] ∧ fndV [x0M] ⟨#[97]⟩ = .tuple #[.string x0M.sum, .int .i64 0] := by
 refine ⟨?_, ?_⟩
 · unfold fndV findM
   rw [List.find?_cons_of_neg (by decide)]; rfl
 · unfold fndV findM
   rw [List.find?_cons_of_pos (by decide)]
open Go Go.RowKit
theorem verify_empty (a b : ByteArray) (w : World) : Calls Tryz.prog 16 #[.string a, .string b, .string ⟨#[]⟩] w fun e w' => e = .returned (.bool false) ∧ w = w' := by
 go_enter Tryz.func16, Tryz.ntmps16
 go_wp2_with fail
 go_ret
 exact ⟨rfl, rfl⟩
theorem check_empty (a b : ByteArray) (w : World) : Calls Tryz.prog 6 #[.string a, .string b, .string ⟨#[]⟩] w fun e w' => e = .returned (.int .i64 223) ∧ w = w' := by
 go_enter Tryz.func6, Tryz.ntmps6
 go_wp2_with fail
 refine (verify_empty a b _).mono ?_
 rintro e w1 ⟨rfl, rfl⟩
 go_wp2_with fail
 go_ret
 exact ⟨rfl, rfl⟩
open Go Go.RowKit
theorem eq_two (a b c d : ByteArray) (w : World) : (Op.equalIn 10000 31 (.agg #[.string a, .string b]) (.agg #[.string c, .string d])).run Tryz.prog w = .ok (a.toList == c.toList && b.toList == d.toList) w := by
 have h1 := run_equalIn_string (P := Tryz.prog) w 9998 9 a c Tryz.underlying9
 have h2 := run_equalIn_string (P := Tryz.prog) w 9998 9 b d Tryz.underlying9
 have P : ∀ (a b : ByteArray), (part 9 #[.string a, .string b] 0).run Tryz.prog w = .ok (.string a) w ∧ (part 9 #[.string a, .string b] 1).run Tryz.prog w = .ok (.string b) w := fun _ _ => ⟨by kernel_rfl, by kernel_rfl⟩
 obtain ⟨p0, p1⟩ := P a b
 obtain ⟨q0, q1⟩ := P c d
 rw [show 10000 = 9999 + 1 from rfl, run_equalIn_agg w 9999 31 _ _ (by unfold Program.fieldsOf; rw [Tryz.underlying31]) (by kernel_rfl)]
 unfold Program.fieldsOf
 rw [Tryz.underlying31]
 simp only [Op.eqFields]
 clear P
 generalize (a.toList == c.toList) = x at *
 generalize (b.toList == d.toList) = y at *
 cases x <;> cases y <;> simp [Sem.run_bind, p0, p1, q0, q1, h1, h2]
theorem eq_sm (x y : SM) (w : World) : (Op.equalIn 10000 31 (.agg #[.string x.name, .string x.sum]) (.agg #[.string y.name, .string y.sum])).run Tryz.prog w = .ok (decide (x = y)) w := by
 rw [eq_two, ba_eq, ba_eq]
 congr 1
 rw [Bool.eq_iff_iff, Bool.and_eq_true, decide_eq_true_iff, decide_eq_true_iff, decide_eq_true_iff, SM.eq_iff]
theorem list_ext_at {l m : List SM} (hl : l.length = m.length) (h : ∀ i : Nat, i < l.length → l[i]? = m[i]?) : l = m := by
 apply List.ext_getElem?
 intro i
 by_cases hi : i < l.length
 · exact h i hi
 · rw [List.getElem?_eq_none (by omega), List.getElem?_eq_none (by omega)]
set_option maxHeartbeats 2000000 in
theorem same_any (l r : List SM) (v u : Value) (w : World) (hS : SumsS w v l) (hR : SumsS w u r) : Calls Tryz.prog 12 #[v, u] w fun e w' => e = .returned (.bool (decide (l = r))) ∧ Below w.heap.size w w' := by
 obtain ⟨ao, cap, rfl, hlen, _, hcells⟩ := hS
 obtain ⟨bo, cbp, rfl, hlen2, _, hcells2⟩ := hR
 unfold maxLen at hlen hlen2
 obtain ⟨V, hV⟩ : ∃ V, V = decide (l = r) := ⟨_, rfl⟩
 rw [← hV]
 have HC := Box.mk hcells; have HC2 := Box.mk hcells2; have HV := Box.mk hV
 clear hcells hcells2 hV
 by_cases hl : l.length = r.length
 · have e1 : ((l.length : Int) != (r.length : Int)) = false := by rw [bne_eq_false_iff_eq]; omega
   have e2 : ((l.length : Int) == (r.length : Int)) = true := by rw [beq_iff_eq]; omega
   have HL := Box.mk hl
   clear hl
   go_enter Tryz.func12, Tryz.ntmps12
   go_wp2_with fail
   clear e1 e2
   go_loopw [5] (fun i wr => ∃ j : Nat, j ≤ l.length ∧ i = .int .i64 (j : Int) ∧ (∀ k, k < j → l[k]? = r[k]?) ∧ Below w.heap.size w wr) (fun i _ => l.length - (intOf i).toNat)
   case atStart => exact ⟨0, Nat.zero_le _, rfl, (fun k h => by omega), Below.refl _ _⟩
   case round =>
     obtain ⟨j, hj, rfl, hf, hb⟩ := hrel
     have HF := Box.mk hf; have HB := Box.mk hb
     clear hf hb
     by_cases hlt : j < l.length
     · have hltI : (j : Int) < (l.length : Int) := by omega
       have hltJ : (j : Int) < (r.length : Int) := by have := HL.out; omega
       obtain ⟨x, hx⟩ : ∃ s, l[j]? = some s := ⟨_, List.getElem?_eq_getElem hlt⟩
       obtain ⟨y, hy⟩ : ∃ s, r[j]? = some s := ⟨_, List.getElem?_eq_getElem (by have := HL.out; omega)⟩
       obtain ⟨a, rfl, HO⟩ := HC.out j x hx
       obtain ⟨b, rfl, HP⟩ := HC2.out j y hy
       obtain ⟨q0, q1⟩ := (HO.below HB.out HO.lt).flat
       obtain ⟨p0, p1⟩ := (HP.below HB.out HP.lt).flat
       have HXY := Box.mk (And.intro hx hy)
       clear HO HP hx hy
       by_cases he : x = y
       · have EQ := fun w => (eq_sm x y w).trans (by rw [decide_eq_true he])
         have NX : Box (∀ k, k < j + 1 → l[k]? = r[k]?) := ⟨fun k hk => by
           by_cases h : k = j
           · subst h; rw [HXY.out.1, HXY.out.2, he]
           · exact HF.out k (by omega)⟩
         clear he
         go_upto_region 6 with (fail)
         go_region
         all_goals
           go_wp2_with fail
           exact ⟨⟨j + 1, hlt, by go_num, NX.out, HB.out.drew⟩, by simp [intOf]; omega⟩
       · have EQ := fun w => (eq_sm x y w).trans (by rw [decide_eq_false he])
         have HN : Box (V = false) := ⟨by
           rw [HV.out, decide_eq_false_iff_not]; intro h
           apply he
           have h1 := HXY.out.1; have h2 := HXY.out.2
           rw [h, h2] at h1
           exact (Option.some.inj h1).symm⟩
         clear he HV
         go_upto_region 6 with (fail)
         go_region
         all_goals
           go_wp2_with fail
           go_ret
           rw [HN.out]
           exact ⟨rfl, HB.out.drew⟩
     · have hltI : ¬ (j : Int) < (l.length : Int) := by omega
       have HN : Box (V = true) := ⟨by
         rw [HV.out, decide_eq_true_iff]
         exact list_ext_at HL.out (fun i hi => HF.out i (by omega))⟩
       clear HV
       go_wp2_with fail
       go_ret
       rw [HN.out]
       exact ⟨rfl, HB.out⟩
 · have e1 : ((l.length : Int) != (r.length : Int)) = true := by rw [bne_iff_ne]; omega
   have e2 : ((l.length : Int) == (r.length : Int)) = false := by rw [beq_eq_false_iff_ne]; omega
   have HN : Box (V = false) := ⟨by rw [HV.out, decide_eq_false_iff_not]; intro h; exact hl (by rw [h])⟩
   clear hl HV
   go_enter Tryz.func12, Tryz.ntmps12
   go_wp2_with fail
   go_ret
   rw [HN.out]
   exact ⟨rfl, Below.refl _ _⟩
open Go Go.RowKit
namespace Gd
section
variable {P : Program} {W : World} {S : List Nat} {ops : Array Oper}
variable {T : (World → Prop) → List Nat → Act → Prop} {oi : Oper}
end
section
variable {P : Program} {ops : Array Oper} {W : World} {S : List Nat} {Q : Exit → Act → World → Prop} {T : (World → Prop) → List Nat → Act → Prop}
end
section
variable {P : Program} {W : World} {S : List Nat} {ops : Array Oper} {T : (World → Prop) → List Nat → Act → Prop} {L : List (Oper × Kd)} {F : World → Prop} {N : List Nat} {a : Act} {o : Oper} {k : Kd}
end
end Gd
open Go Go.RowKit
theorem vinfo_u8 : (Tryz.prog.info? 5).map (fun i => (i.zero, i.size, i.bytes)) = some (some (.int .u8 0), 1, 1) := by kernel_rfl
theorem vmade_one (z : Value) (hz : z.cells = #[z]) (m : Nat) : madeCells z.cells (m * 1) = Array.replicate m z := by
 rw [hz, Nat.mul_one]
 apply Array.ext
 · simp [madeCells]
 · intro i h1 h2
   simp [madeCells, Nat.mod_one]
theorem vmake_bytes (m : Nat) (x : Int) (hx : x = m) (hm : m ≤ 1000000) (L : List UInt8) (hL : L = List.replicate m 0) (w : World) :
   (Instr.makeSlice 29 (.int .i64 x) (.int .i64 x)).run Tryz.prog w = .ok (.slice (some ⟨w.heap.size, 0, none⟩) m m) (w.alloc (.cells (L.map byv).toArray 5)) := by
 subst hx
 obtain ⟨i0, hi, hz0, hz1, hz2⟩ := info_parts vinfo_u8
 have h := run_make (P := Tryz.prog) w 29 5 i0 (.int .u8 0) Tryz.underlying29 hi hz0 .i64 .i64 m m (by omega) (by omega) (by rw [hz2]; omega) (by omega)
 have e : Array.replicate m (Value.int .u8 0) = (L.map byv).toArray := by rw [hL, List.map_replicate, ← List.toArray_replicate]; rfl
 rw [h, hz1, Int.toNat_natCast, vmade_one _ rfl, e]
theorem vbytes_at (w : World) (b cap : Nat) (l : List UInt8) (n : Nat) (hn : l.length = n) (h : w.heap[b]? = some (.cells (l.map byv).toArray 5 (0, 0))) :
   (convert 29 9 (.slice (some ⟨b, 0, none⟩) n cap)).run Tryz.prog w = .ok (.string ⟨l.toArray⟩) w := by
 subst hn
 have hg : ∀ j u, l[j]? = some u → w.cell? ⟨b, 0 + j, none⟩ = some (.int .u8 (u.toNat : Int)) := fun j u hu => by
   rw [Nat.zero_add, cell_of_row _ _ _ _ _ _ h, List.getElem?_toArray, List.getElem?_map, hu]; rfl
 rw [run_convert_bytes_string w 29 9 5 _ _ _ Tryz.underlying29 Tryz.underlying5 Tryz.underlying9]
 have h := run_loadCells_list (P := Tryz.prog) (w := w) ⟨b, 0, none⟩ ((l.map fun u => (u.toNat : Int)).map (Value.int .u8)) (by
   intro j v hj
   have : (⟨b, 0, none⟩ : Addr).add j = ⟨b, 0 + j, none⟩ := by unfold Addr.add; split <;> simp_all
   rw [this]
   rw [List.getElem?_map, List.getElem?_map] at hj
   cases hl : l[j]? with
   | none => rw [hl] at hj; simp at hj
   | some u => rw [hl] at hj; simp at hj; subst hj; exact hg j u hl)
 rw [List.length_map, List.length_map] at h
 rw [run_bytesToString w _ _ _ _ h]
 have : ∀ (l : List UInt8) (acc : ByteArray), (l.map fun u => (u.toNat : Int)).foldl (fun r n => r.push (UInt8.ofNat n.toNat)) acc = ⟨(acc.data.toList ++ l).toArray⟩ := by
   intro l
   induction l with
   | nil => intro acc; simp
   | cons c l ih => intro acc; simp only [List.map_cons, List.foldl_cons]; rw [ih]; simp [ByteArray.push]
 rw [this]
 rfl
theorem sums_lit {w : World} {g cap : Nat} {cs : Array Value} (l : List SM) (h : w.heap[g]? = some (.cells cs 31 (0, 0))) (hc : cs.toList = smC l) (hl : l.length ≤ maxLen) (hs : ∀ x ∈ l, x.name.size ≤ maxLen ∧ x.sum.size ≤ maxLen) : SumsS w (.slice (some ⟨g, 0, none⟩) l.length cap) l := by
 refine ⟨some ⟨g, 0, none⟩, cap, rfl, hl, hs, fun i x hx => ⟨⟨g, 0, none⟩, rfl, ?_⟩⟩
 obtain ⟨c0, c1⟩ := smC_at l i x hx
 have ea : ∀ k, ((⟨g, 0, none⟩ : Addr).add k) = ⟨g, k, none⟩ := fun k => by unfold Addr.add; split <;> simp_all
 have at_ : ∀ k u, (smC l)[k]? = some u → w.cell? ⟨g, k, none⟩ = some u := fun k u hu => by
   rw [cell_of_row _ _ _ _ _ _ h, ← Array.getElem?_toList, hc]; exact hu
 refine ⟨by rw [ea, Nat.mul_comm]; exact at_ _ _ c0, ?_⟩
 rw [ea]
 show w.cell? ⟨g, i * 2 + 1, none⟩ = _
 rw [Nat.mul_comm]; exact at_ _ _ c1
section
variable {P : Program} {W : World} {S : List Nat} {T : (World → Prop) → List Nat → Act → Prop} {L : List (Oper × Kd)} {F : World → Prop} {N : List Nat} {a : Act} {o : Oper}
end
theorem beq_self_l (l : List UInt8) : (l == l) = true := by simp
set_option maxHeartbeats 8000000 in
theorem fixed_any (m : Int) (w : World) (hm : w.cell? ⟨0, 0, none⟩ = some (.int .i64 m)) : Calls Tryz.prog 4 #[] w fun e w' => e = .returned (.bool true) ∧ Below w.heap.size w w' := by
 obtain ⟨L0, hL0⟩ : ∃ L, L = List.replicate 32 (0 : UInt8) := ⟨_, rfl⟩
 have l0 : L0.length = 32 := by rw [hL0, List.length_replicate]
 obtain ⟨Z, hZ⟩ : ∃ Z : ByteArray, Z = ⟨L0.toArray⟩ := ⟨_, rfl⟩
 obtain ⟨X, hX⟩ : ∃ X, X = x0M := ⟨_, rfl⟩
 have HXN : Box (X.name = ⟨#[97]⟩) := ⟨by rw [hX]; rfl⟩
 have HXS : Box (X.sum = Z) := ⟨by rw [hX, hZ, hL0]; rfl⟩
 have hzz : (Z.toList == Z.toList) = true := beq_self_l _
 have HZS : Box (Z.size ≤ maxLen) := ⟨by rw [hZ]; show L0.toArray.size ≤ _; rw [List.size_toArray, l0]; decide⟩
 have hmk := fun w => vmake_bytes 32 32 rfl (by omega) L0 hL0 w
 have hcv : ∀ wx : World, (convert 29 9 (.slice (some ⟨wx.heap.size, 0, none⟩) 32 32)).run Tryz.prog (wx.alloc (.cells (L0.map byv).toArray 5)) = .ok (.string Z) (wx.alloc (.cells (L0.map byv).toArray 5)) := fun wx => by
   rw [hZ]; exact vbytes_at _ _ _ L0 32 l0 (heap_alloc_new _ _)
 obtain ⟨S, hS⟩ : ∃ S : ByteArray, S = ⟨(textM [X]).toArray⟩ := ⟨_, rfl⟩
 have hSl : S.data.toList = textM [X] := by rw [hS]
 have hSs : S.size = 68 := by rw [← ba_len, hSl, hX]; exact text_x.1
 have hSe : (S.extract 63 68).toList = [48, 32, 32, 97, 10] := by
   rw [ByteArray.toList_eq, ba_cutL, hSl, hX, text_x.2]; rfl
 have hSb : ((S.extract 63 68).toList == [48, 32, 32, 97, 10]) = true := by rw [hSe]; rfl
 have hx1 : (63 : Int) ≤ 68 := by decide
 have XB : Box (∀ l : List SM, (∀ y ∈ l, y = X) → ∀ y ∈ l, y.name.size ≤ maxLen ∧ y.sum.size ≤ maxLen) := ⟨fun l h y hy => by
   rw [h y hy, HXN.out, HXS.out]; exact ⟨by decide, HZS.out⟩⟩
 have P1 := Box.mk (fun v w h => print_any [X] v w h)
 have e1 : prV [X] = .tuple #[.string S, .int .i64 0] := by rw [hS, hX]; exact prV_x1
 rw [e1] at P1
 have P2 := Box.mk (fun v w h => print_any [X, X] v w h)
 have e2 : prV [X, X] = .tuple #[.string ⟨#[]⟩, .int .i64 221] := by rw [hX]; exact prV_x2
 rw [e2] at P2
 have PA := Box.mk (fun w h => parse_any S m (by rw [hSs]; omega) w h)
 have e3 : parseM 220 221 S.data.toList = ([X], 0) := by rw [hSl, hX]; exact parse_x1
 unfold ParV at PA
 rw [e3] at PA
 have PB := Box.mk (fun w h => parse_any (S ++ S) m (by rw [ByteArray.size_append, hSs]; omega) w h)
 have e4 : parseM 220 221 (S ++ S).data.toList = ([], 221) := by rw [ba_app, hSl, hX]; exact parse_x2
 unfold ParV at PB
 rw [e4] at PB
 have PC := Box.mk (fun w h => parse_any ⟨#[]⟩ m (by decide) w h)
 have e5 : parseM 220 221 (⟨#[]⟩ : ByteArray).data.toList = ([], 220) := parse_x0
 unfold ParV at PC
 rw [e5] at PC
 have F1 := Box.mk (fun v w h => find_any [X] ⟨#[98]⟩ v w h)
 have F2 := Box.mk (fun v w h => find_any [X] ⟨#[97]⟩ v w h)
 have e6 : fndV [X] ⟨#[98]⟩ = .tuple #[.string ⟨#[]⟩, .int .i64 222] := by rw [hX]; exact find_x.1
 have e7 : fndV [X] ⟨#[97]⟩ = .tuple #[.string Z, .int .i64 0] := by rw [← HXS.out, hX]; exact find_x.2
 rw [e6] at F1
 rw [e7] at F2
 have SA := Box.mk (fun v u w h k => same_any [X] [X] v u w h k)
 rw [decide_eq_true rfl] at SA
 obtain ⟨W1, hW1⟩ : ∃ W, W = w.alloc (.cells (L0.map byv).toArray 5) := ⟨_, rfl⟩
 obtain ⟨b1, hb1⟩ : ∃ z, z = w.heap.size + 1 := ⟨_, rfl⟩
 have hs1 : W1.heap.size = b1 := by rw [hW1, hb1]; simp
 obtain ⟨W2, hW2⟩ : ∃ W, W = W1.alloc (.cells #[.string ⟨#[97]⟩, .string Z] 31) := ⟨_, rfl⟩
 have R2 := Box.mk (show W2.heap[b1]? = some (.cells #[.string ⟨#[97]⟩, .string Z] 31 (0, 0)) by rw [hW2, ← hs1]; exact heap_alloc_new _ _)
 have B2 := Box.mk (show Below w.heap.size w W2 by rw [hW2, hW1]; exact ((Below.refl _ _).alloc (Nat.le_refl _) _).alloc (by simp) _)
 have KM := Box.mk (show ∀ wx, Below w.heap.size w wx → wx.cell? ⟨0, 0, none⟩ = some (.int .i64 m) from fun wx h => (h.cell (p := ⟨0, 0, none⟩) (World.block_lt_of_cell? w _ hm)).trans hm)
 have SL := Box.mk (show ∀ (W : World), SumsS (W.alloc (.cells #[.string ⟨#[97]⟩, .string Z] 31)) (.slice (some ⟨W.heap.size, 0, none⟩) 1 1) [X] from fun W => sums_lit [X] (heap_alloc_new _ _) (by unfold smC; rw [List.flatMap_cons, HXN.out, HXS.out]; rfl) (by simp [maxLen]) (XB.out _ (by simp)))
 have SL2 := Box.mk (show ∀ (W : World), SumsS (W.alloc (.cells #[.string ⟨#[97]⟩, .string Z, .string ⟨#[97]⟩, .string Z] 31)) (.slice (some ⟨W.heap.size, 0, none⟩) 2 2) [X, X] from fun W => sums_lit [X, X] (heap_alloc_new _ _) (by unfold smC; rw [List.flatMap_cons, List.flatMap_cons, HXN.out, HXS.out]; rfl) (by simp [maxLen]) (XB.out _ (by simp)))
 have HSS := Box.mk (And.intro hSs (And.intro hSe hSb))
 clear hm hX hSl hSe hSb hS e1 e2 e3 e4 e5 e6 e7 hL0 hZ l0 hSs
 go_enter Tryz.func4, Tryz.ntmps4
 go_upto_region 2 with (fail)
 rw [← hW1, ← hW2, ← hb1]
 clear hW1 hW2 hb1 hs1 hmk hcv
 obtain ⟨z0, z1⟩ := sm_cells (x := ⟨⟨#[97]⟩, Z⟩) R2.out
 go_wp2_with fail
 refine (P1.out _ _ (SL.out _)).mono ?_
 rintro e w3 ⟨rfl, hb⟩
 have B3 := Box.mk (B2.out.trans (((Below.refl _ _).alloc (Nat.le_refl _) (.cells #[.string ⟨#[97]⟩, .string Z] 31) |>.trans (hb.mono (by simp))).mono B2.out.size))
 have R3 := Box.mk ((hb.block b1 (by have := (Array.getElem?_eq_some_iff.1 R2.out).1; simp; omega)).trans ((heap_alloc_old _ _ (Array.getElem?_eq_some_iff.1 R2.out).1).trans R2.out))
 clear z0 z1 hb
 obtain ⟨z0, z1⟩ := sm_cells (x := ⟨⟨#[97]⟩, Z⟩) R3.out
 have SX := Box.mk SL2.out
 go_wp2_with fail
 refine (P2.out _ _ (SL2.out _)).mono ?_
 rintro e w4 ⟨rfl, hb⟩
 have B4 := Box.mk (B3.out.trans (((Below.refl _ _).alloc (Nat.le_refl _) (.cells #[.string ⟨#[97]⟩, .string Z, .string ⟨#[97]⟩, .string Z] 31) |>.trans (hb.mono (by simp))).mono B3.out.size))
 have R4 := Box.mk ((hb.block b1 (by have := (Array.getElem?_eq_some_iff.1 R3.out).1; simp; omega)).trans ((heap_alloc_old _ _ (Array.getElem?_eq_some_iff.1 R3.out).1).trans R3.out))
 clear z0 z1 hb P1 P2 B2 R2 B3 R3 SX SL2
 go_wp2_with fail
 refine (PA.out _ (KM.out _ B4.out)).mono ?_
 rintro e w5 ⟨hb, v, rfl, how, _⟩
 have B5 := Box.mk (B4.out.trans (hb.mono B4.out.size))
 have R5 := Box.mk ((hb.block b1 (Array.getElem?_eq_some_iff.1 R4.out).1).trans R4.out)
 have V5 := Box.mk (sums_of_own how (by simp [maxLen]) (XB.out _ (by simp)))
 clear hb how PA R4 B4
 have hSs := HSS.out.1
 go_wp2_with fail
 refine (PB.out _ (KM.out _ B5.out)).mono ?_
 rintro e w6 ⟨hb, v6, rfl, _, _⟩
 have B6 := Box.mk (B5.out.trans (hb.mono B5.out.size))
 have R6 := Box.mk ((hb.block b1 (Array.getElem?_eq_some_iff.1 R5.out).1).trans R5.out)
 have V6 := Box.mk (V5.out.below hb)
 clear hb PB R5 B5 V5
 go_wp2_with fail
 refine (PC.out _ (KM.out _ B6.out)).mono ?_
 rintro e w7 ⟨hb, v7, rfl, _, _⟩
 have B7 := Box.mk (B6.out.trans (hb.mono B6.out.size))
 have R7 := Box.mk ((hb.block b1 (Array.getElem?_eq_some_iff.1 R6.out).1).trans R6.out)
 have V7 := Box.mk (V6.out.below hb)
 clear hb PC R6 B6 V6
 go_wp2_with fail
 refine (F1.out _ _ V7.out).mono ?_
 rintro e w8 ⟨rfl, hb⟩
 have B8 := Box.mk (B7.out.trans (hb.mono B7.out.size))
 have R8 := Box.mk ((hb.block b1 (Array.getElem?_eq_some_iff.1 R7.out).1).trans R7.out)
 have V8 := Box.mk (V7.out.below hb)
 clear hb F1 R7 B7 V7
 go_wp2_with fail
 refine (F2.out _ _ V8.out).mono ?_
 rintro e w9 ⟨rfl, hb⟩
 have B9 := Box.mk (B8.out.trans (hb.mono B8.out.size))
 have R9 := Box.mk ((hb.block b1 (Array.getElem?_eq_some_iff.1 R8.out).1).trans R8.out)
 have V9 := Box.mk (V8.out.below hb)
 clear hb F2 R8 B8 V8
 obtain ⟨z0, z1⟩ := sm_cells (x := ⟨⟨#[97]⟩, Z⟩) R9.out
 have hSb := HSS.out.2.2
 go_wp2_with fail
 refine (SA.out _ _ _ (V9.out.below ((Below.refl _ _).alloc (Nat.le_refl _) _)) (SL.out _)).mono ?_
 rintro e w10 ⟨rfl, hb⟩
 have B10 := Box.mk (B9.out.trans (((Below.refl _ _).alloc (Nat.le_refl _) (.cells #[.string ⟨#[97]⟩, .string Z] 31) |>.trans (hb.mono (by simp))).mono B9.out.size))
 have R10 := Box.mk ((hb.block b1 (by have := (Array.getElem?_eq_some_iff.1 R9.out).1; simp; omega)).trans ((heap_alloc_old _ _ (Array.getElem?_eq_some_iff.1 R9.out).1).trans R9.out))
 clear z0 z1 hb SA V9 B9 R9
 obtain ⟨z0, z1⟩ := sm_cells (x := ⟨⟨#[97]⟩, Z⟩) R10.out
 go_wp2_with fail
 refine (check_empty ⟨#[]⟩ ⟨#[]⟩ _).mono ?_
 rintro e w11 ⟨rfl, rfl⟩
 go_wp2_with fail
 go_ret
 exact ⟨rfl, B10.out⟩
end Go.Proofs.YtafhncpaoolljaaGreat
namespace Go.Proofs.YtafhncpaoolljaaGreat.Sha
set_option maxRecDepth 100000
set_option linter.unusedVariables false
def rotr (W x n : Nat) : Nat := x / 2 ^ n ||| x * 2 ^ (W - n) % 2 ^ W
structure T3 where
 a : Nat
 b : Nat
 c : Nat
structure Sh where
 a : T3
 b : T3
 c : T3
 d : T3
def big (W x : Nat) (n : T3) : Nat := rotr W x n.a ^^^ rotr W x n.b ^^^ rotr W x n.c
def sml (W x : Nat) (n : T3) : Nat := rotr W x n.a ^^^ rotr W x n.b ^^^ x / 2 ^ n.c
def nextW (W : Nat) (s : Sh) (l : List Nat) : Nat :=
 (sml W (l.getD (l.length - 2) 0) s.d + l.getD (l.length - 7) 0 + sml W (l.getD (l.length - 15) 0) s.c + l.getD (l.length - 16) 0) % 2 ^ W
def sched (W : Nat) (s : Sh) : Nat → List Nat → List Nat
 | 0, l => l
 | n + 1, l => sched W s n (l ++ [nextW W s l])
structure V8 where
 a : Nat
 b : Nat
 c : Nat
 d : Nat
 e : Nat
 f : Nat
 g : Nat
 h : Nat
def V8.list (v : V8) : List Nat := [v.a, v.b, v.c, v.d, v.e, v.f, v.g, v.h]
def one (W : Nat) (s : Sh) (v : V8) (k x : Nat) : Nat := (v.h + big W v.e s.b + ((v.e &&& v.f) ^^^ ((2 ^ W - 1 - v.e) &&& v.g)) + k + x) % 2 ^ W
def two (W : Nat) (s : Sh) (v : V8) : Nat := (big W v.a s.a + ((v.a &&& v.b) ^^^ (v.a &&& v.c) ^^^ (v.b &&& v.c))) % 2 ^ W
def round (W : Nat) (s : Sh) (v : V8) (k x : Nat) : V8 :=
 ⟨(one W s v k x + two W s v) % 2 ^ W, v.a, v.b, v.c, (v.d + one W s v k x) % 2 ^ W, v.e, v.f, v.g⟩
def rnds (W : Nat) (s : Sh) : List Nat → List Nat → V8 → V8
 | k :: ks, x :: xs, v => rnds W s ks xs (round W s v k x)
 | _, _, v => v
def plus (W : Nat) (v u : V8) : V8 :=
 ⟨(v.a + u.a) % 2 ^ W, (v.b + u.b) % 2 ^ W, (v.c + u.c) % 2 ^ W, (v.d + u.d) % 2 ^ W, (v.e + u.e) % 2 ^ W, (v.f + u.f) % 2 ^ W, (v.g + u.g) % 2 ^ W, (v.h + u.h) % 2 ^ W⟩
def blk (W : Nat) (s : Sh) (ks : List Nat) (v : V8) (l : List Nat) : V8 :=
 plus W v (rnds W s ks (sched W s (ks.length - l.length) l) v)
def be (l : List UInt8) : Nat := l.foldl (fun x b => 256 * x + b.toNat) 0
def wordsOf (n : Nat) : Nat → List UInt8 → List Nat
 | 0, _ => []
 | c + 1, l => be (l.take n) :: wordsOf n c (l.drop n)
def bytesOf (x : Nat) : Nat → List UInt8
 | 0 => []
 | n + 1 => UInt8.ofNat (x / 256 ^ n) :: bytesOf x n
structure Kd where
 W : Nat
 s : Sh
 ks : List Nat
 h : V8
def Kd.B (k : Kd) : Nat := 2 * k.W
def Kd.step (k : Kd) (v : V8) (l : List UInt8) : V8 := blk k.W k.s k.ks v (wordsOf (k.W / 8) 16 l)
def run (B : Nat) (f : V8 → List UInt8 → V8) : Nat → V8 → List UInt8 → V8 × List UInt8
 | 0, v, l => (v, l)
 | n + 1, v, l => run B f n (f v (l.take B)) (l.drop B)
def blks (B : Nat) (f : V8 → List UInt8 → V8) (v : V8) (l : List UInt8) : V8 × List UInt8 := run B f (l.length / B) v l
theorem run_add (B : Nat) (f : V8 → List UInt8 → V8) (m : Nat) : ∀ n v l, run B f (n + m) v l = run B f m (run B f n v l).1 (run B f n v l).2
 | 0, v, l => by rw [Nat.zero_add]; rfl
 | n + 1, v, l => by rw [show n + 1 + m = n + m + 1 from by omega, run, run_add B f m n]; rfl
theorem run_len (B : Nat) (f : V8 → List UInt8 → V8) : ∀ n v l, n * B ≤ l.length → (run B f n v l).2.length = l.length - n * B
 | 0, v, l, _ => by simp [run]
 | n + 1, v, l, h => by
   rw [Nat.add_mul, Nat.one_mul] at h
   rw [run, run_len B f n _ _ (by rw [List.length_drop]; omega), List.length_drop, Nat.add_mul, Nat.one_mul]; omega
theorem run_append (B : Nat) (f : V8 → List UInt8 → V8) (y : List UInt8) : ∀ n v l, n * B ≤ l.length → run B f n v (l ++ y) = ((run B f n v l).1, (run B f n v l).2 ++ y)
 | 0, v, l, _ => rfl
 | n + 1, v, l, h => by
   rw [Nat.add_mul, Nat.one_mul] at h
   rw [run, run, List.take_append_of_le_length (by omega), List.drop_append_of_le_length (by omega)]
   exact run_append B f y n _ _ (by rw [List.length_drop]; omega)
theorem blks_rest {B : Nat} (hB : 0 < B) (f : V8 → List UInt8 → V8) (v : V8) (l : List UInt8) : (blks B f v l).2.length = l.length % B := by
 unfold blks
 rw [run_len _ _ _ _ _ (Nat.div_mul_le_self _ _)]
 have := Nat.div_add_mod l.length B
 rw [Nat.mul_comm] at this; omega
theorem blks_append {B : Nat} (hB : 0 < B) (f : V8 → List UInt8 → V8) (v : V8) (l y : List UInt8) :
   blks B f v (l ++ y) = blks B f (blks B f v l).1 ((blks B f v l).2 ++ y) := by
 have hr := blks_rest hB f v l
 have e : (l ++ y).length / B = l.length / B + ((blks B f v l).2 ++ y).length / B := by
   rw [List.length_append, List.length_append, hr]
   have := Nat.div_add_mod l.length B
   rw [show l.length + y.length = (l.length % B + y.length) + B * (l.length / B) from by omega, Nat.add_mul_div_left _ _ hB, Nat.add_comm]
 rw [show blks B f v (l ++ y) = run B f ((l ++ y).length / B) v (l ++ y) from rfl, e, run_add, run_append _ _ _ _ _ _ (Nat.div_mul_le_self _ _)]
 rfl
def zeros (B n : Nat) : Nat := (B - B / 8 + B - (n + 1) % B) % B
def padB (B n : Nat) : List UInt8 := (128 : UInt8) :: (List.replicate (zeros B n) 0 ++ bytesOf (8 * n) (B / 8))
def Kd.sumV (k : Kd) (l : List UInt8) : V8 := (blks k.B k.step k.h (l ++ padB k.B l.length)).1
def Kd.sum (k : Kd) (l : List UInt8) : List UInt8 := (k.sumV l).list.flatMap fun x => bytesOf x (k.W / 8)
structure St where
 v : V8
 r : List UInt8
 n : Nat
def Kd.new (k : Kd) : St := ⟨k.h, [], 0⟩
def Kd.write (k : Kd) (s : St) (l : List UInt8) : St := let q := blks k.B k.step s.v (s.r ++ l); ⟨q.1, q.2, s.n + l.length⟩
def Kd.ask (k : Kd) (s : St) : List UInt8 := (blks k.B k.step s.v (s.r ++ padB k.B s.n)).1.list.flatMap fun x => bytesOf x (k.W / 8)
def Kd.at (k : Kd) (l : List UInt8) : St := ⟨(blks k.B k.step k.h l).1, (blks k.B k.step k.h l).2, l.length⟩
theorem Kd.at_write {k : Kd} (hB : 0 < k.B) (l y : List UInt8) : k.write (k.at l) y = k.at (l ++ y) := by
 simp only [Kd.write, Kd.at, ← blks_append hB, List.length_append]
theorem Kd.at_nil {k : Kd} : k.at [] = k.new := by
 simp only [Kd.at, Kd.new, blks, List.length_nil, Nat.zero_div]; rfl
theorem Kd.ask_at {k : Kd} (hB : 0 < k.B) (l : List UInt8) : k.ask (k.at l) = k.sum l := by
 simp only [Kd.ask, Kd.at, ← blks_append hB]; rfl
def sh256 : Sh := ⟨⟨2, 13, 22⟩, ⟨6, 11, 25⟩, ⟨7, 18, 3⟩, ⟨17, 19, 10⟩⟩
def sh512 : Sh := ⟨⟨28, 34, 39⟩, ⟨14, 18, 41⟩, ⟨1, 8, 7⟩, ⟨19, 61, 6⟩⟩
def K : List Nat := [4794697086780616226, 8158064640168781261, 13096744586834688815, 16840607885511220156, 4131703408338449720, 6480981068601479193, 10538285296894168987, 12329834152419229976, 15566598209576043074, 1334009975649890238, 2608012711638119052, 6128411473006802146, 8268148722764581231, 9286055187155687089, 11230858885718282805, 13951009754708518548, 16472876342353939154, 17275323862435702243, 1135362057144423861, 2597628984639134821, 3308224258029322869, 5365058923640841347, 6679025012923562964, 8573033837759648693, 10970295158949994411, 12119686244451234320, 12683024718118986047, 13788192230050041572, 14330467153632333762, 15395433587784984357, 489312712824947311, 1452737877330783856, 2861767655752347644, 3322285676063803686, 5560940570517711597, 5996557281743188959, 7280758554555802590, 8532644243296465576, 9350256976987008742, 10552545826968843579, 11727347734174303076, 12113106623233404929, 14000437183269869457, 14369950271660146224, 15101387698204529176, 15463397548674623760, 17586052441742319658, 1182934255886127544, 1847814050463011016, 2177327727835720531, 2830643537854262169, 3796741975233480872, 4115178125766777443, 5681478168544905931, 6601373596472566643, 7507060721942968483, 8399075790359081724, 8693463985226723168, 9568029438360202098, 10144078919501101548, 10430055236837252648, 11840083180663258601, 13761210420658862357, 14299343276471374635, 14566680578165727644, 15097957966210449927, 16922976911328602910, 17689382322260857208, 500013540394364858, 748580250866718886, 1242879168328830382, 1977374033974150939, 2944078676154940804, 3659926193048069267, 4368137639120453308, 4836135668995329356, 5532061633213252278, 6448918945643986474, 6902733635092675308, 7801388544844847127]
def H0 : Nat := 7640891576956012808
def H1 : Nat := 13503953896175478587
def H2 : Nat := 4354685564936845355
def H3 : Nat := 11912009170470909681
def H4 : Nat := 5840696475078001361
def H5 : Nat := 11170449401992604703
def H6 : Nat := 2270897969802886507
def H7 : Nat := 6620516959819538809
def k256 : Kd := ⟨32, sh256, (K.take 64).map (· / 4294967296), ⟨H0 / 4294967296, H1 / 4294967296, H2 / 4294967296, H3 / 4294967296, H4 / 4294967296, H5 / 4294967296, H6 / 4294967296, H7 / 4294967296⟩⟩
def k512 : Kd := ⟨64, sh512, K, ⟨H0, H1, H2, H3, H4, H5, H6, H7⟩⟩
structure R3 where
 r : Nat
 q : Nat
 l : Nat
def M160 : Nat := 2 ^ 160
def rmore (p : Nat) (r q : Nat) : Nat := if p = 2 then (1 + r * 2) % M160 else ((1 + r * 3) % M160 + q * 3) % M160
def rstep (n p step : Nat) (s : R3) : R3 :=
 let g := if 64 ≤ step then n / 2 ^ (p * (step - 64)) % 2 ^ p else 0
 let l := (s.l * 2 ^ p + g) % M160
 let r := s.r * 2 % M160
 let q := s.q * 4 % M160
 let m := rmore p r q
 if l < m then ⟨r, q, l⟩ else ⟨(r * 1 + 1) % M160, ((q + r * 2) % M160 * 1 + 1) % M160, l - m⟩
def rloop (n p : Nat) : Nat → R3 → R3
 | 0, s => s
 | k + 1, s => rloop n p k (rstep n p k s)
def rootF (n p : Nat) : Nat := (rloop n p 67 ⟨0, 0, 0⟩).r % 2 ^ 64
def ps : List Nat := [2, 3, 5, 7, 11, 13, 17, 19, 23, 29, 31, 37, 41, 43, 47, 53, 59, 61, 67, 71, 73, 79, 83, 89, 97, 101, 103, 107, 109, 113, 127, 131, 137, 139, 149, 151, 157, 163, 167, 173, 179, 181, 191, 193, 197, 199, 211, 223, 227, 229, 233, 239, 241, 251, 257, 263, 269, 271, 277, 281, 283, 293, 307, 311, 313, 317, 331, 337, 347, 349, 353, 359, 367, 373, 379, 383, 389, 397, 401, 409]
theorem roots3 : ps.map (rootF · 3) = K := by decide +kernel
theorem roots2 : (ps.take 8).map (rootF · 2) = k512.h.list := by decide +kernel
end Go.Proofs.YtafhncpaoolljaaGreat.Sha
