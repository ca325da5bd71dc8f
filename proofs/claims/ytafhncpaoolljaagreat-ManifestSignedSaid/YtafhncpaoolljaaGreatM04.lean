/- Manifest: the set of names that Print makes; the Builder and that map side by side. Manifest: Print of the program. Manifest: rows of sums of the call's own. Manifest: Parse of the program. Manifest: Print of the document. Manifest: the document's Parse. -/
import Derived.Test.YtafhncpaoolljaaGreatM03
import Derived.Maps.OwnSet
namespace Go.Proofs.YtafhncpaoolljaaGreat
set_option maxRecDepth 100000
set_option linter.unusedVariables false
open Go Go.RowKit
def nmD (l : List SM) : DataW Unit := l.foldl (fun D x => D.put (.string x.name.data.toList) (.lit (.bool true))) (.map [])
theorem nm_snoc (l : List SM) (x : SM) : nmD (l ++ [x]) = (nmD l).put (.string x.name.data.toList) (.lit (.bool true)) := by unfold nmD; rw [List.foldl_append]; rfl
theorem key_str (l : List UInt8) : WideAt.IsKeyLit (.string l) := by simp [WideAt.IsKeyLit]
theorem rev_ind {Q : List SM → Prop} (h0 : Q []) (h1 : ∀ l x, Q l → Q (l ++ [x])) (l : List SM) : Q l := by
 have h : ∀ r : List SM, Q r.reverse := by
   intro r
   induction r with
   | nil => exact h0
   | cons x r ih => rw [List.reverse_cons]; exact h1 _ _ ih
 have := h l.reverse
 rwa [List.reverse_reverse] at this
theorem nm_tidy (l : List SM) : Maps.Tidy (nmD l) := by
 refine rev_ind (Q := fun l => Maps.Tidy (nmD l)) ⟨[], rfl, by simp⟩ (fun l x ih => ?_) l
 rw [nm_snoc]; exact ih.put (key_str _) _
theorem name_eq (a b : ByteArray) : (Lit.string a.data.toList = Lit.string b.data.toList) ↔ a = b := by
 constructor
 · intro h; injection h with h; cases a; cases b; simpa using h
 · rintro rfl; rfl
theorem nm_has (l : List SM) (n : ByteArray) : Maps.has (nmD l) (.string n.data.toList) = l.any (fun y => decide (y.name = n)) := by
 refine rev_ind (Q := fun l => Maps.has (nmD l) (.string n.data.toList) = l.any (fun y => decide (y.name = n))) rfl (fun l x ih => ?_) l
 · rw [nm_snoc, List.any_append]
   by_cases h : x.name = n
   · rw [← h, Maps.has_put_same (nm_tidy l).isMap (key_str _)]; simp
   · rw [Maps.has_put_other (by intro e; exact h ((name_eq _ _).1 e).symm), ih]; simp [h]
theorem nm_size (l : List SM) : Maps.size (nmD l) = distM l := by
 refine rev_ind (Q := fun l => Maps.size (nmD l) = distM l) rfl (fun l x ih => ?_) l
 · rw [nm_snoc, Maps.size_put (nm_tidy l), nm_has, dist_snoc, ih]
   split <;> rfl
theorem grownBy_of {w w' : World} (h : Below w.heap.size w w') (row : Option Nat) : w.grownBy w' row := ⟨h.os, h.tape, h.output, h.size, fun k hk _ => h.block k hk⟩
theorem bf_kept {T e : TypeId} {B b : Nat} {bs : List Value} {w w' : World} {row : Option Nat} (h : Lib.IsBuilderF T e B b bs w) (hg : w.grownBy w' row) (hb : some b ≠ row) (hr : ∀ v : Value, (∃ c fz g, v.ownBlock = some g ∧ w.heap[g]? = some (.cells c e fz)) → v.ownBlock ≠ row) : Lib.IsBuilderF T e B b bs w' := by
 have one : ∀ p, Lib.BuilderAtF T e B b p bs w → Lib.BuilderAtF T e B b p bs w' := by
   rintro p ⟨h1, v, h2, h3, h4⟩
   refine ⟨h1, v, (hg.block b (Array.getElem?_eq_some_iff.1 h2).1 hb).trans h2, h3.kept hg ?_, h4⟩
   cases hv : v.ownBlock with
   | none => exact .inl rfl
   | some g =>
     obtain ⟨c, fz, hc⟩ := Lib.ownsRowF_kind h3 g hv
     exact .inr (by rw [← hv]; exact hr v ⟨c, fz, g, hv, hc⟩)
 exact h.elim (fun h => .inl (one _ h)) (fun h => .inr (one _ h))
theorem bf_below {T e : TypeId} {B b : Nat} {bs : List Value} {w w' : World} (h : Lib.IsBuilderF T e B b bs w) (hg : Below w.heap.size w w') : Lib.IsBuilderF T e B b bs w' :=
 bf_kept h (grownBy_of hg none) (by simp) (fun v ⟨c, fz, g, hv, _⟩ => by rw [hv]; simp)
theorem map_others {P : Program} {k : TypeId} {R : Value → Option (DataW Unit × List MemPlace)} {b n e B : Nat} {D : DataW Unit} {w w' : World} (h : w.ownsMap P k R b n D) (hk : Lib.OthersKept e (some B) w w') (hne : b ≠ B) : w'.ownsMap P k R b n D := by
 obtain ⟨es, clock, hb, F, hs, hD⟩ := h
 exact ⟨es, clock, hk b _ hb (by simpa using hne) (fun c fz h => by cases h), F, hs, hD⟩
theorem bf_map {T e : TypeId} {B b m : Nat} {bs : List Value} {w w' : World} {P : Program} {k : TypeId} {R : Value → Option (DataW Unit × List MemPlace)} {n : Nat} {D : DataW Unit} (h : Lib.IsBuilderF T e B b bs w) (hm : w.ownsMap P k R m n D) (hg : w.grownBy w' (some m)) (hne : b ≠ m) : Lib.IsBuilderF T e B b bs w' := by
 obtain ⟨es, clock, hb, _⟩ := hm
 refine bf_kept h hg (by simpa using hne) ?_
 rintro v ⟨c, fz, g, hv, hc⟩
 rw [hv]
 intro e
 injection e with e
 subst e
 rw [hb] at hc; cases hc
theorem text_len : ∀ l : List SM, (∀ x ∈ l, x.May) → (textM l).length ≤ 200 * l.length
 | [], _ => by simp [textM]
 | x :: l, h => by
   have := text_len l (fun y hy => h y (List.mem_cons_of_mem _ hy))
   have hx := h x List.mem_cons_self
   have h1 := SM.hex_len hx
   have h2 := hx.few
   rw [textM_cons, List.length_append, List.length_cons, List.length_cons]
   unfold SM.head
   simp only [List.length_append, List.length_cons, List.length_nil, h1]
   rw [ba_len]; omega
open Go Go.RowKit Go.Maps
def prV (l : List SM) : Value := .tuple #[.string ⟨(printM 220 221 l).1.toArray⟩, .int .i64 (printM 220 221 l).2]
theorem prV_form {l : List SM} (h : l.length < 1 ∨ 16 < l.length) : prV l = .tuple #[.string ⟨#[]⟩, .int .i64 220] := by unfold prV printM; rw [if_pos h]
theorem prV_may {l : List SM} {x : SM} (hx : x ∈ l) (h : x.may = false) : prV l = .tuple #[.string ⟨#[]⟩, .int .i64 220] := by
 unfold prV printM
 by_cases h1 : l.length < 1 ∨ 16 < l.length
 · rw [if_pos h1]
 · rw [if_neg h1, if_pos (by rw [← Bool.not_eq_true, List.all_eq_true]; intro h2; rw [h2 x hx] at h; cases h)]
theorem prV_end {l : List SM} (h1 : 1 ≤ l.length) (h2 : l.length ≤ 16) (hm : ∀ x ∈ l, x.May) : prV l = if distM l < l.length then .tuple #[.string ⟨#[]⟩, .int .i64 221] else .tuple #[.string ⟨(textM l).toArray⟩, .int .i64 0] := by
 have hd := dist_once l; have hl := dist_le l
 unfold prV printM
 rw [if_neg (by omega), if_neg (by rw [(mays_iff l).2 hm]; decide)]
 by_cases ho : onceM l = true
 · rw [if_neg (by rw [ho]; decide), if_neg (by have := hd.2 ho; omega)]
 · rw [if_pos (by simpa using ho), if_pos (by have : distM l ≠ l.length := fun h => ho (hd.1 h); omega)]
theorem lawM : Keyed Tryz.prog 9 := string_keyed Tryz.underlying9
theorem ba_app (a b : ByteArray) : (a ++ b).data.toList = a.data.toList ++ b.data.toList := by simp
set_option maxHeartbeats 4000000 in
theorem print_any (l : List SM) (v : Value) (w : World) (hS : SumsS w v l) : Calls Tryz.prog 9 #[v] w fun e w' => e = .returned (prV l) ∧ Below w.heap.size w w' := by
 obtain ⟨ao, cap, rfl, hlen, hsz, hcells⟩ := hS
 unfold maxLen at hlen
 obtain ⟨V, hV⟩ : ∃ V, V = prV l := ⟨_, rfl⟩
 rw [← hV]
 have HCELLS := Box.mk hcells; have HSZ := Box.mk hsz; have HV := Box.mk hV
 clear hcells hsz hV
 by_cases h1 : l.length < 1
 · as_aux_lemma =>
   have h1I : (l.length : Int) < 1 := by omega
   have HN : Box (V = .tuple #[.string ⟨#[]⟩, .int .i64 220]) := ⟨by rw [HV.out]; exact prV_form (.inl h1)⟩
   clear h1 HV
   go_enter Tryz.func9, Tryz.ntmps9
   go_wp2_with fail
   go_ret2
   rw [HN.out]
   exact ⟨rfl, Below.refl _ _⟩
 · by_cases h2 : 16 < l.length
   · as_aux_lemma =>
     have h1I : ¬ (l.length : Int) < 1 := by omega
     have h2I : (16 : Int) < (l.length : Int) := by omega
     have HN : Box (V = .tuple #[.string ⟨#[]⟩, .int .i64 220]) := ⟨by rw [HV.out]; exact prV_form (.inr h2)⟩
     clear h1 h2 HV
     go_enter Tryz.func9, Tryz.ntmps9
     go_wp2_with fail
     go_ret2
     rw [HN.out]
     exact ⟨rfl, Below.refl _ _⟩
   · have h1I : ¬ (l.length : Int) < 1 := by omega
     have h2I : ¬ (16 : Int) < (l.length : Int) := by omega
     have HLN := Box.mk (show 1 ≤ l.length ∧ l.length ≤ 16 from ⟨by omega, by omega⟩)
     have hmm := @run_makeMap Tryz.prog
     obtain ⟨B, hB⟩ : ∃ B, B = w.heap.size := ⟨_, rfl⟩
     obtain ⟨M, hM⟩ : ∃ M, M = B + 1 := ⟨_, rfl⟩
     obtain ⟨W1, hW1⟩ : ∃ W, W = w.alloc (.cells #[.pointer none, .slice none 0 0] 44) := ⟨_, rfl⟩
     obtain ⟨W2, hW2⟩ : ∃ W, W = W1.alloc (.map #[] 0) := ⟨_, rfl⟩
     have hs1 : W1.heap.size = M := by rw [hW1, hM, hB]; simp
     have BF0 := Box.mk (show Lib.IsBuilderF 44 5 B B (Lib.byteCells (textM [])) W2 by
       rw [hW2]
       refine Lib.IsBuilderF.alloc (.inl ⟨Nat.le_refl _, .slice none 0 0, by rw [hW1, hB]; exact heap_alloc_new _ _, World.ownsRowF_nil _ _ _ _, by simp [Value.ownBlock]⟩) _)
     have MO0 := Box.mk (show W2.ownsMap Tryz.prog 9 (plainElem (H := Unit) Tryz.prog 4) M 0 (nmD []) by rw [hW2, ← hs1]; exact World.ownsMap_made _ _ _ _)
     have BE0 := Box.mk (show Below B w W2 by rw [hW2, hW1, hB]; exact ((Below.refl _ _).alloc (Nat.le_refl _) _).alloc (by simp) _)
     have HBM := Box.mk (show B = w.heap.size ∧ M = B + 1 from ⟨hB, hM⟩)
     rw [← hB]
     clear h1 h2
     go_enter Tryz.func9, Tryz.ntmps9
     go_upto_region 4 with (fail)
     rw [← hW1, ← hB]
     clear hW1 hB hM
     go_upto_region 5 with (fail)
     rw [← hW2]
     try rw [hs1]
     clear hW2 hs1 hmm
     go_wp2_with fail
     go_loopw [19] (fun i wr => ∃ j : Nat, j ≤ l.length ∧ i = .int .i64 (j : Int) ∧ (∀ x ∈ l.take j, x.May) ∧ Lib.IsBuilderF 44 5 B B (Lib.byteCells (textM (l.take j))) wr ∧ wr.ownsMap Tryz.prog 9 (plainElem (H := Unit) Tryz.prog 4) M j (nmD (l.take j)) ∧ Below B w wr) (fun i _ => l.length - (intOf i).toNat)
     case atStart => exact ⟨0, Nat.zero_le _, rfl, fun x hx => by simp at hx, BF0.out, MO0.out, BE0.out⟩
     case round =>
       clear BF0 MO0 BE0
       obtain ⟨j, hj, rfl, hm, hbf, hmo, hb⟩ := hrel
       have MAY := Box.mk hm; have BF := Box.mk hbf; have MO := Box.mk hmo; have HB := Box.mk hb
       clear hm hbf hmo hb
       by_cases hlt : j < l.length
       · have hltI : (j : Int) < (l.length : Int) := by omega
         obtain ⟨x, hx⟩ : ∃ s, l[j]? = some s := ⟨_, List.getElem?_eq_getElem hlt⟩
         obtain ⟨a, rfl, HO⟩ := HCELLS.out j x hx
         have hbw : Below w.heap.size w wr := by have := HB.out; rwa [HBM.out.1] at this
         obtain ⟨q0, q1⟩ := (HO.below hbw HO.lt).flat
         have hxl : x ∈ l := List.mem_of_getElem? hx
         have TK : Box (l.take (j + 1) = l.take j ++ [x]) := ⟨by rw [List.take_add_one, hx]; rfl⟩
         obtain ⟨wk, hwk⟩ : ∃ wk, wk = wr.alloc (.cells #[.string x.name, .string x.sum] 31) := ⟨_, rfl⟩
         obtain ⟨ob, hob⟩ : ∃ z, z = wr.heap.size := ⟨_, rfl⟩
         have OB := Box.mk (show wk.heap[ob]? = some (.cells #[.string x.name, .string x.sum] 31 (0, 0)) by rw [hwk, hob]; exact heap_alloc_new _ _)
         have BFk := Box.mk (show Lib.IsBuilderF 44 5 B B (Lib.byteCells (textM (l.take j))) wk by rw [hwk]; exact BF.out.alloc _)
         have MOk := Box.mk (show wk.ownsMap Tryz.prog 9 (plainElem (H := Unit) Tryz.prog 4) M j (nmD (l.take j)) by rw [hwk]; exact MO.out.alloc _)
         have HBk := Box.mk (show Below B w wk by rw [hwk]; exact HB.out.alloc (by have := HB.out.size; have := HBM.out; omega) _)
         have HMP := Box.mk (show (x.May → x.name.size ≤ maxLen) ∧ ob ≠ M ∧ j < l.length from ⟨fun h => Nat.le_trans h.few (by unfold maxLen; omega), by
           obtain ⟨es, ck, hmb, _⟩ := MO.out
           have := (Array.getElem?_eq_some_iff.1 hmb).1
           omega, hlt⟩)
         have MA := Box.mk (fun w => may_any x (HSZ.out x hxl).1 (HSZ.out x hxl).2 w)
         have HXL := Box.mk hxl
         clear HO hx hxl hbw BF MO HB
         go_upto_region 8 with (fail)
         rw [← hwk, ← hob]
         clear hwk hob q0 q1
         obtain ⟨z0, z1⟩ := sm_cells OB.out
         cases hmx : x.may with
         | false => as_aux_lemma =>
           rw [hmx] at MA
           have HN : Box (V = .tuple #[.string ⟨#[]⟩, .int .i64 220]) := ⟨by rw [HV.out]; exact prV_may HXL.out hmx⟩
           clear hmx HV
           go_wp2_with fail
           refine (MA.out _).mono ?_
           rintro e w5 ⟨rfl, hb⟩
           have B5 := Box.mk (HBk.out.trans (hb.mono (by have := HBk.out.size; have := HBM.out; omega)))
           clear hb z0 z1
           go_wp2_with fail
           go_ret2
           rw [HN.out]
           exact ⟨rfl, B5.out⟩
         | true => as_aux_lemma =>
           rw [hmx] at MA
           have XM := Box.mk ((SM.may_iff x).1 hmx)
           clear hmx
           go_wp2_with fail
           refine (MA.out _).mono ?_
           rintro e w5 ⟨rfl, hb⟩
           have B5 := Box.mk (HBk.out.trans (hb.mono (by have := HBk.out.size; have := HBM.out; omega)))
           have OB5 := Box.mk ((hb.block ob (Array.getElem?_eq_some_iff.1 OB.out).1).trans OB.out)
           have BF5 := Box.mk (bf_below BFk.out hb)
           have MO5 := Box.mk (MOk.out.kept (grownBy_of hb none) (by simp))
           clear hb z0 z1 OB BFk MOk HBk
           obtain ⟨z0, z1⟩ := sm_cells OB5.out
           have HKEY := Go.WideMaps.keyOf_string_mk (P := Tryz.prog) Tryz.underlying9 (s := x.name) (HMP.out.1 XM.out)
           have hj63 : j < maxLen := by unfold maxLen; have := HMP.out; omega
           go_wp2_with (at_mapUpdate; refine wpList_mapUpdate_own _ rfl _ _ _ 45 rfl 9 4 lawM Tryz.underlying45 _ M j _ rfl MO5.out hj63 _ _ _ rfl rfl HKEY _ [] (plainElem_bool Tryz.underlying4 true) ?_; intro w6 hown6 hgrow6)
           have MO6 := Box.mk (show w6.ownsMap Tryz.prog 9 (plainElem (H := Unit) Tryz.prog 4) M (j + 1) (nmD (l.take (j + 1))) by rw [TK.out, nm_snoc]; exact hown6)
           have BF6 := Box.mk (bf_map BF5.out MO5.out hgrow6 (by have := HBM.out; omega))
           have OB6 := Box.mk ((hgrow6.block ob (Array.getElem?_eq_some_iff.1 OB5.out).1 (by intro e; injection e with e; exact HMP.out.2.1 e)).trans OB5.out)
           have B6 := Box.mk (show Below B w w6 from B5.out.grown hgrow6 (by have := B5.out.size; have := HBM.out; omega) (fun k hk => by injection hk with hk; have := HBM.out; omega))
           have hxs : x.sum.size = 32 := XM.out.sum
           have HX := Box.mk (fun w => hex_any x.sum (by rw [hxs]; omega) w)
           obtain ⟨H, hH⟩ : ∃ H : ByteArray, H = ⟨(hexL x.sum.data.toList).toArray⟩ := ⟨_, rfl⟩
           rw [← hH] at HX
           have hHd : H.data.toList = hexL x.sum.data.toList := by rw [hH]
           have hHs : H.size = 64 := by rw [← ba_len, hHd]; exact SM.hex_len XM.out
           obtain ⟨T1, hT1⟩ : ∃ T, H ++ (⟨#[32, 32]⟩ : ByteArray) = T := ⟨_, rfl⟩
           have hT1s : T1.size = 66 := by rw [← hT1, ByteArray.size_append, hHs]; rfl
           obtain ⟨T2, hT2⟩ : ∃ T, T1 ++ x.name = T := ⟨_, rfl⟩
           obtain ⟨k, hk⟩ : ∃ k, k = x.name.size := ⟨_, rfl⟩
           have hks : x.name.size = k := hk.symm
           have hk100 : k ≤ 100 := by rw [hk]; exact XM.out.few
           have hT2s : T2.size = 66 + k := by rw [← hT2, ByteArray.size_append, hT1s, hks]
           obtain ⟨T3, hT3⟩ : ∃ T, T2 ++ (⟨#[10]⟩ : ByteArray) = T := ⟨_, rfl⟩
           have hT3s : T3.size = 67 + k := by rw [← hT3, ByteArray.size_append, hT2s]; show 66 + k + 1 = _; omega
           have LINE : Box (T3.data.toList = x.line) := ⟨by
             rw [← hT3, ba_app, ← hT2, ba_app, ← hT1, ba_app, hHd]; unfold SM.line; simp⟩
           have hlim1 : ¬ 9223372036854775807 < 66 + k := by omega
           have hlim2 : ¬ 9223372036854775807 < 66 + k + 1 := by omega
           have hlim3 : ¬ (9223372036854775807 : Int) < 66 + (k : Int) := by omega
           have hlim4 : ¬ (9223372036854775807 : Int) < 66 + (k : Int) + 1 := by omega
           have T3S := Box.mk hT3s; have K100 := Box.mk hk100
           clear hown6 hgrow6 z0 z1 MO5 BF5 OB5 B5 HKEY hj63 hxs hH hHd hk hT3s
           go_upto_region 11 with (fail)
           have RW := Box.mk (show w6.drew.heap[ob]? = some (.cells #[.string x.name, .string x.sum] 31 (0, 0)) from OB6.out)
           refine wp_region_mix 8 [.flo, .flo, .cha, .flo, .flo, .flo, .flo, .flo] (by kernel_rfl) (by kernel_rfl) rfl ?_
           simp only [List.take, List.zip, List.zipWith]
           try go_frame
           refine gm_flo (.pointer (some ⟨ob, 1, none⟩)) (fun w1 hw1 => ?_) ?_
           case refine_1 =>
             go_simp
           try go_frame
           refine gm_flo (.string x.sum) (fun w1 hw1 => ?_) ?_
           case refine_1 =>
             have e1 : w1.cell? ⟨ob, 1, none⟩ = some (.string x.sum) := (cell_of_row _ _ _ _ _ _ (hw1.at (by simp) RW.out)).trans rfl
             go_simp
           try go_frame
           refine gm_call [.string x.sum] (by kernel_rfl) rfl rfl Stb.tt (fun w1 hw1 hF1 => (HX.out w1).mono ?_)
           rintro e w2 ⟨rfl, hb⟩
           refine ⟨_, rfl, hb, ?_⟩
           clear hw1 hF1 hb w1 w2
           try go_frame
           refine gm_flo (.string T1) (fun w1 hw1 => ?_) ?_
           case refine_1 =>
             go_simp
           try go_frame
           refine gm_flo (.pointer (some ⟨ob, 0, none⟩)) (fun w1 hw1 => ?_) ?_
           case refine_1 =>
             go_simp
           try go_frame
           refine gm_flo (.string x.name) (fun w1 hw1 => ?_) ?_
           case refine_1 =>
             have e1 : w1.cell? ⟨ob, 0, none⟩ = some (.string x.name) := (cell_of_row _ _ _ _ _ _ (hw1.at (by simp) RW.out)).trans rfl
             go_simp
           try go_frame
           refine gm_flo (.string T2) (fun w1 hw1 => ?_) ?_
           case refine_1 =>
             go_simp
           try go_frame
           refine gm_flo (.string T3) (fun w1 hw1 => ?_) ?_
           case refine_1 =>
             go_simp
           try go_frame
           refine gm_nil ?_
           intro w9 hw9 hF9
           simp only [List.drop]
           try go_frame
           have U9 := Box.mk (Upd.belowN ((Upd.refl [] w6).drew.trans hw9.upd))
           clear hw9 hF9 RW hT1 hT2 hT3 hlim1 hlim2 hlim3 hlim4 hHs hT1s hT2s hks
           have BF9 := Box.mk (bf_below BF6.out U9.out)
           have MO9 := Box.mk (MO6.out.kept (grownBy_of U9.out none) (by simp))
           have B9 := Box.mk (B6.out.trans (U9.out.mono (by have := B6.out.size; have := HBM.out; omega)))
           have TL := Box.mk (show (Lib.byteCells (textM (l.take j))).length + T3.size ≤ 140737488355328 by
             have := text_len (l.take j) MAY.out
             have h2 : (l.take j).length ≤ 16 := by rw [List.length_take]; have := HLN.out; omega
             rw [Lib.byteCells_length, T3S.out]; have := K100.out; omega)
           clear BF6 MO6 B6 U9
           go_wp2_with fail
           refine (bwrite_any B B _ T3 _ BF9.out TL.out (by have := B9.out.size; have := HBM.out; omega)).mono ?_
           rintro e w7 ⟨rfl, h1, h2, h3⟩
           have BF7 := Box.mk (show Lib.IsBuilderF 44 5 B B (Lib.byteCells (textM (l.take (j + 1)))) w7 by
             rw [TK.out, textM_snoc, Lib.byteCells_append, ← LINE.out, ← Lib.strCells_eq]; exact .inr h1)
           have MO7 := Box.mk (map_others MO9.out h3 (by have := HBM.out; omega))
           have B7 := Box.mk (B9.out.trans h2)
           clear h1 h2 h3 BF9 MO9 B9
           go_wp2_with fail
           exact ⟨⟨j + 1, HMP.out.2.2, by go_num, by
             rw [TK.out]; intro y hy
             rcases List.mem_append.1 hy with hy | hy
             · exact MAY.out y hy
             · rw [List.mem_singleton] at hy; subst hy; exact XM.out, BF7.out, MO7.out, B7.out⟩, by have := HMP.out; simp [intOf]; omega⟩
       · as_aux_lemma =>
         obtain rfl : j = l.length := by omega
         have hltI : ¬ (l.length : Int) < (l.length : Int) := by omega
         have hm := MAY.out; have hbf := BF.out; have hmo := MO.out
         rw [List.take_length] at hm hbf hmo
         have PE := Box.mk (prV_end HLN.out.1 HLN.out.2 hm)
         have hds := nm_size l
         have BF2 := Box.mk hbf
         clear hm hbf MAY BF MO hlt hj
         obtain ⟨d, hd⟩ : ∃ d, d = distM l := ⟨_, rfl⟩
         rw [← hd] at PE hds
         have HSB := Box.mk (show B ≤ wr.heap.size by have := HB.out.size; have := HBM.out; omega)
         clear hd
         by_cases hdl : d < l.length
         · have hdI : (d : Int) < (l.length : Int) := by omega
           have HN : Box (V = .tuple #[.string ⟨#[]⟩, .int .i64 221]) := ⟨by rw [HV.out, PE.out, if_pos hdl]⟩
           clear hdl HV PE
           go_wp2_with (at_len; refine wpList_len_own _ rfl _ 45 rfl 9 4 Tryz.underlying45 _ M l.length _ rfl hmo ?_; rw [hds])
           go_wp2_with fail
           go_ret2
           rw [HN.out]
           exact ⟨rfl, HB.out⟩
         · have hdI : ¬ (d : Int) < (l.length : Int) := by omega
           have HN : Box (V = .tuple #[.string ⟨(textM l).toArray⟩, .int .i64 0]) := ⟨by rw [HV.out, PE.out, if_neg hdl]⟩
           clear hdl HV PE
           go_wp2_with (at_len; refine wpList_len_own _ rfl _ 45 rfl 9 4 Tryz.underlying45 _ M l.length _ rfl hmo ?_; rw [hds])
           go_wp2_with fail
           refine (Tryz.Builder_String_any_k B B (textM l) _ BF2.out HSB.out).mono ?_
           rintro e w7 ⟨rfl, _, h2, _⟩
           have B7 := Box.mk (HB.out.trans h2)
           clear h2
           go_wp2_with fail
           go_ret2
           rw [HN.out]
           exact ⟨rfl, B7.out⟩
open Go Go.RowKit
def smC (l : List SM) : List Value := l.flatMap fun x => [.string x.name, .string x.sum]
theorem smC_app (l m : List SM) : smC (l ++ m) = smC l ++ smC m := by unfold smC; rw [List.flatMap_append]
theorem smC_at : ∀ (l : List SM) (j : Nat) (x : SM), l[j]? = some x → (smC l)[2 * j]? = some (.string x.name) ∧ (smC l)[2 * j + 1]? = some (.string x.sum)
 | [], j, s, h => by simp at h
 | y :: l, 0, s, h => by simp at h; subst h; exact ⟨rfl, rfl⟩
 | y :: l, j + 1, s, h => by
   have := smC_at l j s (by simpa using h)
   rw [show 2 * (j + 1) = 2 * j + 1 + 1 by omega]
   exact this
theorem infoSm : (Tryz.prog.info? 31).map (fun i => (i.zero, i.size, i.bytes)) = some (some (.agg #[.string ⟨#[]⟩, .string ⟨#[]⟩]), 2, 32) := by kernel_rfl
theorem ownS_keep {w w' : World} {base size n : Nat} {e : TypeId} {v : Value} {xs : List Value} (h : w.ownsRow base e size v n xs) (hk : ∀ k, v.ownBlock = some k → k < w.heap.size → w'.heap[k]? = w.heap[k]?) : w'.ownsRow base e size v n xs := by
 refine ⟨h.1, ?_⟩
 rcases h.2 with h' | ⟨g, cap, cur, a, b, c, d⟩
 · exact .inl h'
 · exact .inr ⟨g, cap, cur, a, b, (hk g (by rw [a]; rfl) (Array.getElem?_eq_some_iff.1 c).1).trans c, d⟩
theorem ownS_below {w w' : World} {base size n : Nat} {e : TypeId} {v : Value} {xs : List Value} (h : w.ownsRow base e size v n xs) (hb : Below w.heap.size w w') : w'.ownsRow base e size v n xs := ownS_keep h fun k _ hl => hb.block k hl
theorem ownS_alloc {w : World} {base size n : Nat} {e : TypeId} {v : Value} {xs : List Value} (h : w.ownsRow base e size v n xs) (o : Obj) : (w.alloc o).ownsRow base e size v n xs := ownS_below h ((Below.refl _ _).alloc (Nat.le_refl _) o)
theorem two_cells (w : World) (u v : Value) (e : TypeId) : ∀ (j : Nat) (x : Value), ([u, v] : List Value)[j]? = some x → (w.alloc (.cells #[u, v] e)).cell? ((⟨w.heap.size, 0, none⟩ : Addr).add j) = some x := by
 intro j x h
 rw [show ((⟨w.heap.size, 0, none⟩ : Addr).add j) = ⟨w.heap.size, j, none⟩ from by unfold Addr.add; split <;> simp_all, cell_of_row _ _ _ _ _ _ (heap_alloc_new _ _)]
 simpa using h
theorem sums_of_own {w : World} {B : Nat} {v : Value} {l : List SM} (h : w.ownsRow B 31 2 v l.length (smC l)) (hl : l.length ≤ maxLen) (hs : ∀ x ∈ l, x.name.size ≤ maxLen ∧ x.sum.size ≤ maxLen) : SumsS w v l := by
 rcases h.2 with ⟨hv, hn⟩ | ⟨g, cap, cur, hv, hb, hg, hnc, hcm, hcs, htk⟩
 · exact ⟨none, 0, by rw [hv, hn], hl, hs, fun i x hx => by rw [List.eq_nil_of_length_eq_zero hn] at hx; simp at hx⟩
 · refine ⟨some ⟨g, 0, none⟩, cap, hv, hl, hs, fun i x hx => ⟨⟨g, 0, none⟩, rfl, ?_⟩⟩
   obtain ⟨c0, c1⟩ := smC_at l i x hx
   have hi := (List.getElem?_eq_some_iff.1 hx).1
   have ea : ∀ k, ((⟨g, 0, none⟩ : Addr).add k) = ⟨g, k, none⟩ := fun k => by unfold Addr.add; split <;> simp_all
   have at_ : ∀ k u, (smC l)[k]? = some u → w.cell? ⟨g, k, none⟩ = some u := fun k u hu => by
     rw [cell_of_row _ _ _ _ _ _ hg, ← Array.getElem?_toList]
     rw [← htk, List.getElem?_take] at hu
     split at hu
     · exact hu
     · cases hu
   refine ⟨by rw [ea, Nat.mul_comm]; exact at_ _ _ c0, ?_⟩
   rw [ea]
   show w.cell? ⟨g, i * 2 + 1, none⟩ = _
   rw [Nat.mul_comm]; exact at_ _ _ c1
open Go Go.RowKit
def ParV (S : List UInt8) (w : World) (e : Ending) (w' : World) : Prop :=
 Below w.heap.size w w' ∧ ∃ (v : Value), e = .returned (.tuple #[v, .int .i64 (parseM 220 221 S).2]) ∧ w'.ownsRow w.heap.size 31 2 v (parseM 220 221 S).1.length (smC (parseM 220 221 S).1) ∧ (∀ x ∈ (parseM 220 221 S).1, x.May)
theorem cut_len (s sep : List UInt8) : (Lib.cut s sep).1.length ≤ s.length ∧ (Lib.cut s sep).2.1.length ≤ s.length := by
 unfold Lib.cut
 split
 · exact ⟨by rw [List.length_take]; omega, by rw [List.length_drop]; omega⟩
 · exact ⟨Nat.le_refl _, Nat.zero_le _⟩
theorem arr_size (l : List UInt8) : (⟨l.toArray⟩ : ByteArray).size = l.length := by show l.toArray.size = _; simp
theorem cut_nl_any (s : ByteArray) (m : Int) (w : World) (hs : s.size ≤ 1500000) (hm : w.cell? ⟨0, 0, none⟩ = some (.int .i64 m)) :
   Calls Tryz.prog 25 #[.string s, .string ⟨#[10]⟩] w fun e w' => (∃ a b f, e = .returned (.tuple #[.string a, .string b, .bool f]) ∧ ((f = false ∧ cutL s.data.toList = none) ∨ (f = true ∧ cutL s.data.toList = some (a.data.toList, b.data.toList))) ∧ a.size ≤ s.size ∧ b.size ≤ s.size) ∧ Below w.heap.size w w' := by
 refine (Tryz.strings_Cut s ⟨#[10]⟩ m w (by omega) hm).mono ?_
 rintro e w' ⟨rfl, n, rfl⟩
 have hl := cut_len s.data.toList (⟨#[10]⟩ : ByteArray).data.toList
 refine ⟨⟨_, _, _, rfl, ?_, by rw [arr_size, ← ba_len]; exact hl.1, by rw [arr_size, ← ba_len]; exact hl.2⟩, bdrewN (Below.refl _ _) n⟩
 have h : (⟨#[10]⟩ : ByteArray).data.toList = [10] := rfl
 rw [h, cut_nl]
 cases hc : cutL s.data.toList with
 | none => exact .inl ⟨rfl, rfl⟩
 | some p => exact .inr ⟨rfl, rfl⟩
theorem cut_bl_any (s : ByteArray) (m : Int) (w : World) (hs : s.size ≤ 1500000) (hm : w.cell? ⟨0, 0, none⟩ = some (.int .i64 m)) :
   Calls Tryz.prog 25 #[.string s, .string ⟨#[32, 32]⟩] w fun e w' => (∃ a b f, e = .returned (.tuple #[.string a, .string b, .bool f]) ∧ Lib.cut s.data.toList [32, 32] = (a.data.toList, b.data.toList, f) ∧ a.size ≤ s.size ∧ b.size ≤ s.size) ∧ Below w.heap.size w w' := by
 refine (Tryz.strings_Cut s ⟨#[32, 32]⟩ m w (by omega) hm).mono ?_
 rintro e w' ⟨rfl, n, rfl⟩
 have hl := cut_len s.data.toList (⟨#[32, 32]⟩ : ByteArray).data.toList
 exact ⟨⟨_, _, _, rfl, rfl, by rw [arr_size, ← ba_len]; exact hl.1, by rw [arr_size, ← ba_len]; exact hl.2⟩, bdrewN (Below.refl _ _) n⟩
theorem str_neS (s : ByteArray) (h : s.size ≠ 0) : s.toList.isEmpty = false := by
 rw [ByteArray.toList_eq]; cases hd : s.data.toList with
 | nil => exact absurd (by rw [← ba_len, hd]; rfl) h
 | cons a b => rfl
theorem own_slice {w : World} {base : Nat} {e : TypeId} {size : Nat} {v : Value} {n : Nat} {xs : List Value} (h : w.ownsRow base e size v n xs) : ∃ ao cap, v = .slice ao n cap := by
 rcases h.2 with ⟨hv, h0⟩ | ⟨g, cap, cur, hv, _⟩
 · exact ⟨none, 0, by rw [hv, h0]⟩
 · exact ⟨_, cap, hv⟩
theorem lineC_none {a d n : List UInt8} {f : Bool} (hc : Lib.cut a [32, 32] = (d, n, f)) (h : unhexL d = none ∨ f = false) : lineM a = none := by
 rw [← lineC_eq]; unfold lineC
 rw [hc]
 rcases h with h | h
 · dsimp only; rw [h]
 · dsimp only
   cases unhexL d with
   | none => rfl
   | some l => dsimp only; rw [if_neg (by rw [h]; simp)]
theorem lineC_may {a n : List UInt8} {dl : List UInt8} {d : List UInt8} {x : SM} (hc : Lib.cut a [32, 32] = (d, n, true)) (hu : unhexL d = some dl) (hx : x = ⟨⟨n.toArray⟩, ⟨dl.toArray⟩⟩) : lineM a = if x.may = true then some x else none := by
 rw [← lineC_eq]; unfold lineC
 rw [hc]
 dsimp only
 rw [hu]
 dsimp only
 rw [← hx]
 by_cases h : x.may = true
 · rw [if_pos ⟨rfl, h⟩, if_pos h]
 · rw [if_neg (by intro e; exact h e.2), if_neg h]
set_option maxHeartbeats 8000000 in
theorem parse_any (s : ByteArray) (m : Int) (hs : s.size ≤ 1500000) (w : World) (hm : w.cell? ⟨0, 0, none⟩ = some (.int .i64 m)) : Calls Tryz.prog 10 #[.string s] w (ParV s.data.toList w) := by
 obtain ⟨S, hS⟩ : ∃ S, S = s.data.toList := ⟨_, rfl⟩
 obtain ⟨B, hB⟩ : ∃ B, B = w.heap.size := ⟨_, rfl⟩
 have HBW := Box.mk hB
 have HM := Box.mk (fun (w1 : World) (h : Below B w w1) => (show w1.cell? ⟨0, 0, none⟩ = some (.int .i64 m) from (h.cell (p := ⟨0, 0, none⟩) (by rw [hB]; exact World.block_lt_of_cell? w _ hm)).trans hm))
 obtain ⟨i0, hi0, hz0, hsz0, hby0⟩ := info_parts infoSm
 have P0 := Box.mk (show parseM 220 221 S = restM 220 221 [] s.data.toList by rw [restM_start, hS])
 rw [← hS]
 clear hS hm hB
 go_enter Tryz.func10, Tryz.ntmps10
 go_wp2_with fail
 go_loopw [4, 5] (fun v r wr => ∃ (ls : List SM) (rest : ByteArray) (ao : Option Addr) (cap : Nat), v = .slice ao ls.length cap ∧ r = .string rest ∧ parseM 220 221 S = restM 220 221 ls rest.data.toList ∧ (∀ x ∈ ls, x.May) ∧ ls.length ≤ 17 ∧ rest.size ≤ s.size ∧ wr.ownsRow B 31 2 (.slice ao ls.length cap) ls.length (smC ls) ∧ Below B w wr) (fun _ r _ => match r with | .string x => x.size | _ => 0)
 case atStart => exact ⟨[], s, none, 0, rfl, rfl, P0.out, (fun x hx => by cases hx), Nat.zero_le _, Nat.le_refl _, World.ownsRow_nil _ _ _ _, Below.refl _ _⟩
 case round =>
   clear P0
   obtain ⟨ls, rest, ao, cap, rfl, rfl, hp, hmay, hl17, hrs, how, hb⟩ := hrel
   have PV := Box.mk hp; have MAY := Box.mk hmay; have OW := Box.mk how; have HB := Box.mk hb; have HL := Box.mk (And.intro hl17 hrs)
   clear hp hmay how hb
   by_cases hr : rest.size = 0
   · as_aux_lemma =>
     have he : rest.toList.isEmpty = true := by
       rw [ByteArray.toList_eq]
       have : rest.data.toList = [] := List.eq_nil_of_length_eq_zero (by rw [ba_len]; exact hr)
       rw [this]; rfl
     have hre : rest.data.toList = [] := List.eq_nil_of_length_eq_zero (by rw [ba_len]; exact hr)
     have EX := Box.mk (restM_end 220 221 ls)
     rw [hre] at PV
     clear hr hre hl17 hrs
     have SS := Box.mk (sums_of_own OW.out (by unfold maxLen; have := HL.out; omega) (fun x hx => ⟨Nat.le_trans (MAY.out x hx).few (by unfold maxLen; omega), by rw [(MAY.out x hx).sum]; unfold maxLen; omega⟩))
     have PR := Box.mk (print_any ls _ wr SS.out)
     unfold prV at PR
     obtain ⟨C, hC⟩ : ∃ C, C = (printM 220 221 ls).2 := ⟨_, rfl⟩
     rw [← hC] at PR EX
     have HCC := Box.mk hC
     clear hC SS
     go_wp2_with fail
     refine PR.out.mono ?_
     rintro e w2 ⟨rfl, hb⟩
     have B2 := Box.mk (HB.out.trans (hb.mono (by have := HB.out.size; have := HBW.out; omega)))
     have OW2 := Box.mk (ownS_below OW.out hb)
     clear hb PR OW HB
     by_cases hc0 : C = 0
     · have hcI : (C != 0) = false := by rw [bne_eq_false_iff_eq]; exact hc0
       have HN : Box (parseM 220 221 S = (ls, 0)) := ⟨by rw [PV.out, EX.out, if_pos hc0]⟩
       clear hc0
       go_wp2_with fail
       go_ret2
       unfold ParV
       rw [HN.out]
       exact ⟨HBW.out ▸ B2.out, _, rfl, HBW.out ▸ OW2.out, MAY.out⟩
     · have hcI : (C != 0) = true := by rw [bne_iff_ne]; exact hc0
       have HN : Box (parseM 220 221 S = ([], C)) := ⟨by rw [PV.out, EX.out, if_neg hc0]⟩
       clear hc0
       go_wp2_with fail
       go_ret2
       unfold ParV
       rw [HN.out]
       exact ⟨HBW.out ▸ B2.out, _, rfl, World.ownsRow_nil _ _ _ _, fun x hx => by cases hx⟩
   · have he : rest.toList.isEmpty = false := str_neS rest hr
     by_cases h17 : 16 < ls.length
     · as_aux_lemma =>
       have h17I : ¬ (ls.length : Int) ≤ 16 := by omega
       have EX : Box (restM 220 221 ls rest.data.toList = if (printM 220 221 ls).2 = 0 then (ls, 0) else ([], (printM 220 221 ls).2)) := ⟨by rw [restM_long (by decide) h17, printM_long 220 221 h17, if_neg (by decide)]⟩
       clear hr h17 hl17 hrs
       have SS := Box.mk (sums_of_own OW.out (by unfold maxLen; have := HL.out; omega) (fun x hx => ⟨Nat.le_trans (MAY.out x hx).few (by unfold maxLen; omega), by rw [(MAY.out x hx).sum]; unfold maxLen; omega⟩))
       have PR := Box.mk (print_any ls _ wr SS.out)
       unfold prV at PR
       obtain ⟨C, hC⟩ : ∃ C, C = (printM 220 221 ls).2 := ⟨_, rfl⟩
       rw [← hC] at PR EX
       have HCC := Box.mk hC
       clear hC SS
       go_wp2_with fail
       refine PR.out.mono ?_
       rintro e w2 ⟨rfl, hb⟩
       have B2 := Box.mk (HB.out.trans (hb.mono (by have := HB.out.size; have := HBW.out; omega)))
       have OW2 := Box.mk (ownS_below OW.out hb)
       clear hb PR OW HB
       by_cases hc0 : C = 0
       · have hcI : (C != 0) = false := by rw [bne_eq_false_iff_eq]; exact hc0
         have HN : Box (parseM 220 221 S = (ls, 0)) := ⟨by rw [PV.out, EX.out, if_pos hc0]⟩
         clear hc0
         go_wp2_with fail
         go_ret2
         unfold ParV
         rw [HN.out]
         exact ⟨HBW.out ▸ B2.out, _, rfl, HBW.out ▸ OW2.out, MAY.out⟩
       · have hcI : (C != 0) = true := by rw [bne_iff_ne]; exact hc0
         have HN : Box (parseM 220 221 S = ([], C)) := ⟨by rw [PV.out, EX.out, if_neg hc0]⟩
         clear hc0
         go_wp2_with fail
         go_ret2
         unfold ParV
         rw [HN.out]
         exact ⟨HBW.out ▸ B2.out, _, rfl, World.ownsRow_nil _ _ _ _, fun x hx => by cases hx⟩
     · have h17I : (ls.length : Int) ≤ 16 := by omega
       have HR := Box.mk (show rest.data.toList ≠ [] from fun e => hr (by rw [← ba_len, e]; rfl))
       have H16 := Box.mk (show ls.length ≤ 16 by omega)
       have hrs5 : rest.size ≤ 1500000 := by omega
       have C1 := Box.mk (cut_nl_any rest m wr hrs5 (HM.out wr HB.out))
       have HRS := Box.mk (And.intro hrs5 hr)
       clear hr h17 hl17 hrs hrs5
       go_wp2_with fail
       refine C1.out.mono ?_
       rintro e w1 ⟨⟨a, b, f, rfl, hf, ha, hbs⟩, hb1⟩
       have B1 := Box.mk (HB.out.trans (hb1.mono (by have := HB.out.size; have := HBW.out; omega)))
       have O1 := Box.mk (ownS_below OW.out hb1)
       have C2 := Box.mk (cut_bl_any a m w1 (by have := HRS.out.1; omega) (HM.out w1 B1.out))
       have FB := Box.mk hf; have AB := Box.mk (And.intro ha hbs)
       clear hb1 hf ha hbs C1 OW HB
       go_wp2_with fail
       refine C2.out.mono ?_
       rintro e w2 ⟨⟨d, n, g, rfl, hcut, hd, hn⟩, hb2⟩
       have B2 := Box.mk (B1.out.trans (hb2.mono (by have := B1.out.size; have := HBW.out; omega)))
       have O2 := Box.mk (ownS_below O1.out hb2)
       have CU := Box.mk hcut; have DN := Box.mk (And.intro hd hn)
       have UN := Box.mk (unhex_any d (by have := HRS.out.1; have := AB.out.1; omega) w2)
       clear hb2 hcut hd hn C2 O1 B1
       unfold unV at UN
       cases hu : unhexL d.data.toList with
       | none => as_aux_lemma =>
         rw [hu] at UN
         dsimp only at UN
         go_wp2_with fail
         refine UN.out.mono ?_
         rintro e w3 ⟨rfl, hb3⟩
         have B3 := Box.mk (B2.out.trans (hb3.mono (by have := B2.out.size; have := HBW.out; omega)))
         obtain ⟨W4, hW4⟩ : ∃ W, W = w3.alloc (.cells #[.string n, .string ⟨#[]⟩] 31) := ⟨_, rfl⟩
         have B4 := Box.mk (show Below B w W4 by rw [hW4]; exact B3.out.alloc (by have := B3.out.size; have := HBW.out; omega) _)
         clear hb3 UN O2 B2
         go_upto_region 8 with (fail)
         rw [← hW4]
         clear hW4
         rcases FB.out with ⟨rfl, hcn⟩ | ⟨rfl, hcs⟩
         · have HN : Box (parseM 220 221 S = ([], 220)) := ⟨by rw [PV.out]; exact restM_none HR.out hcn⟩
           clear PV
           go_wp2_with fail
           go_ret2
           unfold ParV
           rw [HN.out]
           exact ⟨HBW.out ▸ B4.out, _, rfl, World.ownsRow_nil _ _ _ _, fun x hx => by cases hx⟩
         · cases g with
           | false =>
             have HN : Box (parseM 220 221 S = ([], 220)) := ⟨by rw [PV.out]; exact restM_bad hcs (lineC_none CU.out (.inr rfl))⟩
             clear PV
             go_wp2_with fail
             go_ret2
             unfold ParV
             rw [HN.out]
             exact ⟨HBW.out ▸ B4.out, _, rfl, World.ownsRow_nil _ _ _ _, fun x hx => by cases hx⟩
           | true =>
             have HN : Box (parseM 220 221 S = ([], 220)) := ⟨by rw [PV.out]; exact restM_bad hcs (lineC_none CU.out (.inl hu))⟩
             clear PV
             go_wp2_with fail
             go_ret2
             unfold ParV
             rw [HN.out]
             exact ⟨HBW.out ▸ B4.out, _, rfl, World.ownsRow_nil _ _ _ _, fun x hx => by cases hx⟩
       | some dl =>
         rw [hu] at UN
         dsimp only at UN
         obtain ⟨x, hx⟩ : ∃ x : SM, x = ⟨n, ⟨dl.toArray⟩⟩ := ⟨_, rfl⟩
         have hxn : x.name = n := by rw [hx]
         have hxs : x.sum = ⟨dl.toArray⟩ := by rw [hx]
         rw [← hxs] at UN
         have hdl : dl.length ≤ d.size := by
           have := congrArg List.length (hex_unhex _ _ hu)
           rw [hexL_len, ba_len] at this; omega
         have HSZ := Box.mk (show x.name.size ≤ maxLen ∧ x.sum.size ≤ maxLen from ⟨by rw [hxn]; unfold maxLen; have := DN.out.2; have := AB.out.1; have := HRS.out.1; omega, by rw [hxs, arr_size]; unfold maxLen; have := DN.out.1; have := AB.out.1; have := HRS.out.1; omega⟩)
         have MA := Box.mk (fun w => may_any x HSZ.out.1 HSZ.out.2 w)
         have XE := Box.mk (show x = ⟨⟨n.data.toList.toArray⟩, ⟨dl.toArray⟩⟩ by rw [hx])
         have HU := Box.mk hu
         rw [← hxn]
         clear hu hdl hx hxs hxn
         go_wp2_with fail
         refine UN.out.mono ?_
         rintro e w3 ⟨rfl, hb3⟩
         have B3 := Box.mk (B2.out.trans (hb3.mono (by have := B2.out.size; have := HBW.out; omega)))
         obtain ⟨W4, hW4⟩ : ∃ W, W = w3.alloc (.cells #[.string x.name, .string x.sum] 31) := ⟨_, rfl⟩
         obtain ⟨ob, hob⟩ : ∃ z, z = w3.heap.size := ⟨_, rfl⟩
         have R4 := Box.mk (show W4.heap[ob]? = some (.cells #[.string x.name, .string x.sum] 31 (0, 0)) by rw [hW4, hob]; exact heap_alloc_new _ _)
         have B4 := Box.mk (show Below B w W4 by rw [hW4]; exact B3.out.alloc (by have := B3.out.size; have := HBW.out; omega) _)
         have O4 := Box.mk (show W4.ownsRow B 31 2 (.slice ao ls.length cap) ls.length (smC ls) by rw [hW4]; exact ownS_alloc (ownS_below O2.out hb3) _)
         clear hb3 UN O2 B2 B3
         go_upto_region 8 with (fail)
         rw [← hW4, ← hob]
         clear hW4 hob
         obtain ⟨z0, z1⟩ := sm_cells R4.out
         rcases FB.out with ⟨rfl, hcn⟩ | ⟨rfl, hcs⟩
         · as_aux_lemma =>
           have HN : Box (parseM 220 221 S = ([], 220)) := ⟨by rw [PV.out]; exact restM_none HR.out hcn⟩
           clear PV
           go_wp2_with fail
           go_ret2
           unfold ParV
           rw [HN.out]
           exact ⟨HBW.out ▸ B4.out, _, rfl, World.ownsRow_nil _ _ _ _, fun x hx => by cases hx⟩
         · cases g with
           | false => as_aux_lemma =>
             have HN : Box (parseM 220 221 S = ([], 220)) := ⟨by rw [PV.out]; exact restM_bad hcs (lineC_none CU.out (.inr rfl))⟩
             clear PV
             go_wp2_with fail
             go_ret2
             unfold ParV
             rw [HN.out]
             exact ⟨HBW.out ▸ B4.out, _, rfl, World.ownsRow_nil _ _ _ _, fun x hx => by cases hx⟩
           | true =>
             have LM := Box.mk (lineC_may CU.out HU.out XE.out)
             cases hmx : x.may with
             | false => as_aux_lemma =>
               rw [hmx] at MA LM
               have LB : lineM a.data.toList = none := by rw [LM.out]; rfl
               have HN : Box (parseM 220 221 S = ([], 220)) := ⟨by rw [PV.out]; exact restM_bad hcs LB⟩
               clear PV
               go_wp2_with fail
               refine (MA.out _).mono ?_
               rintro e w5 ⟨rfl, hb5⟩
               have B5 := Box.mk (B4.out.trans (hb5.mono (by have := B4.out.size; have := HBW.out; omega)))
               clear hb5
               go_wp2_with fail
               go_ret2
               unfold ParV
               rw [HN.out]
               exact ⟨HBW.out ▸ B5.out, _, rfl, World.ownsRow_nil _ _ _ _, fun x hx => by cases hx⟩
             | true => as_aux_lemma =>
               rw [hmx] at MA LM
               have XM := Box.mk ((SM.may_iff x).1 hmx)
               have NX : Box (parseM 220 221 S = restM 220 221 (ls ++ [x]) b.data.toList) := ⟨by rw [PV.out]; exact restM_step hcs (by rw [LM.out]; rfl)⟩
               have HBL := Box.mk (cutL_len hcs)
               clear hcs hmx LM
               go_wp2_with fail
               refine (MA.out _).mono ?_
               rintro e w5 ⟨rfl, hb5⟩
               have B5 := Box.mk (B4.out.trans (hb5.mono (by have := B4.out.size; have := HBW.out; omega)))
               have O5 := Box.mk (ownS_below O4.out hb5)
               have R5 := Box.mk ((hb5.block ob (Array.getElem?_eq_some_iff.1 R4.out).1).trans R4.out)
               clear hb5 z0 z1 O4 B4 R4
               obtain ⟨z0, z1⟩ := sm_cells R5.out
               have hl1 : ls.length + 1 ≤ maxLen := by unfold maxLen; have := H16.out; omega
               have hl2 : (ls.length + 1) * 32 ≤ 140737488355328 := by have := H16.out; omega
               go_wp2_with (at_builtin; refine wpList_append_own _ rfl (.tmp 60) (.tmp 62) 33 rfl B 31 i0 _ 2 32 Tryz.underlying33 hi0 hz0 hsz0 hby0 rfl (by decide) (.slice ao ls.length cap) ls.length (smC ls) rfl (ownS_alloc O5.out _) ⟨w5.heap.size, 0, none⟩ 1 1 [.string x.name, .string x.sum] rfl rfl (two_cells w5 _ _ _) (fun u hu => by simp at hu; rcases hu with rfl | rfl <;> rfl) hl1 hl2 (by have := B5.out.size; have := HBW.out; simp; omega) ?_; intro v' w6 hown' hgrow hnil)
               obtain ⟨ao', cap', rfl⟩ := own_slice hown'
               have O6 := Box.mk hown'
               have B6 := Box.mk ((B5.out.alloc (by have := B5.out.size; have := HBW.out; omega) (.cells #[.string x.name, .string x.sum] 31)).grown hgrow (by have := B5.out.size; have := HBW.out; simp; omega) (fun k hk => (World.ownsRow.lt (ownS_alloc O5.out (.cells #[.string x.name, .string x.sum] 31)) k hk).1))
               clear hown' hgrow hnil O5 B5 R5 z0 z1
               go_wp2_with fail
               refine ⟨⟨ls ++ [x], b, ao', cap', by rw [List.length_append]; rfl, rfl, NX.out, ?_, by rw [List.length_append]; have := H16.out; simp; omega, by have := AB.out.2; have := HL.out.2; omega, ?_, B6.out⟩, ?_⟩
               · intro y hy
                 rcases List.mem_append.1 hy with hy | hy
                 · exact MAY.out y hy
                 · rw [List.mem_singleton] at hy; subst hy; exact XM.out
               · rw [smC_app, List.length_append]; exact O6.out
               · have := HBL.out; rw [ba_len, ba_len] at this; simpa using this
open Go Go.RowKit
open Go Go.RowKit
end Go.Proofs.YtafhncpaoolljaaGreat
