/- Manifest: Print of the program. -/
import Derived.Test.YtafhncpaoolljaaManS
namespace Go.Proofs.Ytafhncpaoolljaa
set_option maxRecDepth 100000
set_option linter.unusedVariables false
open Go Go.RowKit Go.Maps

def prV (l : List SM) : Value := .tuple #[.string ⟨(printM 220 221 l).1.toArray⟩, .int .i64 (printM 220 221 l).2]
theorem prV_form {l : List SM} (h : l.length < 1 ∨ 16 < l.length) : prV l = .tuple #[.string ⟨#[]⟩, .int .i64 220] := by unfold prV printM; rw [if_pos h]
theorem prV_may {l : List SM} {x : SM} (hx : x ∈ l) (h : x.may = false) : prV l = .tuple #[.string ⟨#[]⟩, .int .i64 220] := by
  unfold prV printM
  by_cases h1 : l.length < 1 ∨ 16 < l.length
  · rw [if_pos h1]
  · rw [if_neg h1, if_pos (by rw [← Bool.not_eq_true, List.all_eq_true]; intro h2; rw [h2 x hx] at h; cases h)]
theorem prV_end {l : List SM} (h1 : 1 ≤ l.length) (h2 : l.length ≤ 16) (hm : ∀ x ∈ l, x.May) : prV l = if distM l < l.length then .tuple #[.string ⟨#[]⟩, .int .i64 221] else .tuple #[.string ⟨(textM l).toArray⟩, .int .i64 0] := by
  have hd := dist_once l; have hl := dist_le l
  unfold prV printM
  rw [if_neg (by omega), if_neg (by rw [(mays_iff l).2 hm]; decide)]
  by_cases ho : onceM l = true
  · rw [if_neg (by rw [ho]; decide), if_neg (by have := hd.2 ho; omega)]
  · rw [if_pos (by simpa using ho), if_pos (by have : distM l ≠ l.length := fun h => ho (hd.1 h); omega)]
theorem lawM : Keyed Try.prog 9 := string_keyed Try.underlying9
theorem ba_app (a b : ByteArray) : (a ++ b).data.toList = a.data.toList ++ b.data.toList := by simp
set_option maxHeartbeats 4000000 in
theorem print_any (l : List SM) (v : Value) (w : World) (hS : SumsS w v l) : Calls Try.prog 7 #[v] w fun e w' => e = .returned (prV l) ∧ Below w.heap.size w w' := by
  obtain ⟨ao, cap, rfl, hlen, hsz, hcells⟩ := hS
  unfold maxLen at hlen
  obtain ⟨V, hV⟩ : ∃ V, V = prV l := ⟨_, rfl⟩
  rw [← hV]
  have HCELLS := Box.mk hcells; have HSZ := Box.mk hsz; have HV := Box.mk hV
  clear hcells hsz hV
  by_cases h1 : l.length < 1
  · as_aux_lemma =>
    have h1I : (l.length : Int) < 1 := by omega
    have HN : Box (V = .tuple #[.string ⟨#[]⟩, .int .i64 220]) := ⟨by rw [HV.out]; exact prV_form (.inl h1)⟩
    clear h1 HV
    go_enter Try.func7, Try.ntmps7
    go_wp2_with fail
    go_ret2
    rw [HN.out]
    exact ⟨rfl, Below.refl _ _⟩
  · by_cases h2 : 16 < l.length
    · as_aux_lemma =>
      have h1I : ¬ (l.length : Int) < 1 := by omega
      have h2I : (16 : Int) < (l.length : Int) := by omega
      have HN : Box (V = .tuple #[.string ⟨#[]⟩, .int .i64 220]) := ⟨by rw [HV.out]; exact prV_form (.inr h2)⟩
      clear h1 h2 HV
      go_enter Try.func7, Try.ntmps7
      go_wp2_with fail
      go_ret2
      rw [HN.out]
      exact ⟨rfl, Below.refl _ _⟩
    · have h1I : ¬ (l.length : Int) < 1 := by omega
      have h2I : ¬ (16 : Int) < (l.length : Int) := by omega
      have HLN := Box.mk (show 1 ≤ l.length ∧ l.length ≤ 16 from ⟨by omega, by omega⟩)
      have hmm := @run_makeMap Try.prog
      obtain ⟨B, hB⟩ : ∃ B, B = w.heap.size := ⟨_, rfl⟩
      obtain ⟨M, hM⟩ : ∃ M, M = B + 1 := ⟨_, rfl⟩
      obtain ⟨W1, hW1⟩ : ∃ W, W = w.alloc (.cells #[.pointer none, .slice none 0 0] 39) := ⟨_, rfl⟩
      obtain ⟨W2, hW2⟩ : ∃ W, W = W1.alloc (.map #[] 0) := ⟨_, rfl⟩
      have hs1 : W1.heap.size = M := by rw [hW1, hM, hB]; simp
      have BF0 := Box.mk (show Lib.IsBuilderF 39 5 B B (Lib.byteCells (textM [])) W2 by
        rw [hW2]
        refine Lib.IsBuilderF.alloc (.inl ⟨Nat.le_refl _, .slice none 0 0, by rw [hW1, hB]; exact heap_alloc_new _ _, World.ownsRowF_nil _ _ _ _, by simp [Value.ownBlock]⟩) _)
      have MO0 := Box.mk (show W2.ownsMap Try.prog 9 (plainElem (H := Unit) Try.prog 4) M 0 (nmD []) by rw [hW2, ← hs1]; exact World.ownsMap_made _ _ _ _)
      have BE0 := Box.mk (show Below B w W2 by rw [hW2, hW1, hB]; exact ((Below.refl _ _).alloc (Nat.le_refl _) _).alloc (by simp) _)
      have HBM := Box.mk (show B = w.heap.size ∧ M = B + 1 from ⟨hB, hM⟩)
      rw [← hB]
      clear h1 h2
      go_enter Try.func7, Try.ntmps7
      go_upto_region 4 with (fail)
      rw [← hW1, ← hB]
      clear hW1 hB hM
      go_upto_region 5 with (fail)
      rw [← hW2]
      try rw [hs1]
      clear hW2 hs1 hmm
      go_wp2_with fail
      go_loopw [19] (fun i wr => ∃ j : Nat, j ≤ l.length ∧ i = .int .i64 (j : Int) ∧ (∀ x ∈ l.take j, x.May) ∧ Lib.IsBuilderF 39 5 B B (Lib.byteCells (textM (l.take j))) wr ∧ wr.ownsMap Try.prog 9 (plainElem (H := Unit) Try.prog 4) M j (nmD (l.take j)) ∧ Below B w wr) (fun i _ => l.length - (intOf i).toNat)
      case atStart => exact ⟨0, Nat.zero_le _, rfl, fun x hx => by simp at hx, BF0.out, MO0.out, BE0.out⟩
      case round =>
        clear BF0 MO0 BE0
        obtain ⟨j, hj, rfl, hm, hbf, hmo, hb⟩ := hrel
        have MAY := Box.mk hm; have BF := Box.mk hbf; have MO := Box.mk hmo; have HB := Box.mk hb
        clear hm hbf hmo hb
        by_cases hlt : j < l.length
        · have hltI : (j : Int) < (l.length : Int) := by omega
          obtain ⟨x, hx⟩ : ∃ s, l[j]? = some s := ⟨_, List.getElem?_eq_getElem hlt⟩
          obtain ⟨a, rfl, HO⟩ := HCELLS.out j x hx
          have hbw : Below w.heap.size w wr := by have := HB.out; rwa [HBM.out.1] at this
          obtain ⟨q0, q1⟩ := (HO.below hbw HO.lt).flat
          have hxl : x ∈ l := List.mem_of_getElem? hx
          have TK : Box (l.take (j + 1) = l.take j ++ [x]) := ⟨by rw [List.take_add_one, hx]; rfl⟩
          obtain ⟨wk, hwk⟩ : ∃ wk, wk = wr.alloc (.cells #[.string x.name, .string x.sum] 33) := ⟨_, rfl⟩
          obtain ⟨ob, hob⟩ : ∃ z, z = wr.heap.size := ⟨_, rfl⟩
          have OB := Box.mk (show wk.heap[ob]? = some (.cells #[.string x.name, .string x.sum] 33 (0, 0)) by rw [hwk, hob]; exact heap_alloc_new _ _)
          have BFk := Box.mk (show Lib.IsBuilderF 39 5 B B (Lib.byteCells (textM (l.take j))) wk by rw [hwk]; exact BF.out.alloc _)
          have MOk := Box.mk (show wk.ownsMap Try.prog 9 (plainElem (H := Unit) Try.prog 4) M j (nmD (l.take j)) by rw [hwk]; exact MO.out.alloc _)
          have HBk := Box.mk (show Below B w wk by rw [hwk]; exact HB.out.alloc (by have := HB.out.size; have := HBM.out; omega) _)
          have HMP := Box.mk (show (x.May → x.name.size ≤ maxLen) ∧ ob ≠ M ∧ j < l.length from ⟨fun h => Nat.le_trans h.few (by unfold maxLen; omega), by
            obtain ⟨es, ck, hmb, _⟩ := MO.out
            have := (Array.getElem?_eq_some_iff.1 hmb).1
            omega, hlt⟩)
          have MA := Box.mk (fun w => may_any x (HSZ.out x hxl).1 (HSZ.out x hxl).2 w)
          have HXL := Box.mk hxl
          clear HO hx hxl hbw BF MO HB
          go_upto_region 8 with (fail)
          rw [← hwk, ← hob]
          clear hwk hob q0 q1
          obtain ⟨z0, z1⟩ := sm_cells OB.out
          cases hmx : x.may with
          | false => as_aux_lemma =>
            rw [hmx] at MA
            have HN : Box (V = .tuple #[.string ⟨#[]⟩, .int .i64 220]) := ⟨by rw [HV.out]; exact prV_may HXL.out hmx⟩
            clear hmx HV
            go_wp2_with fail
            refine (MA.out _).mono ?_
            rintro e w5 ⟨rfl, hb⟩
            have B5 := Box.mk (HBk.out.trans (hb.mono (by have := HBk.out.size; have := HBM.out; omega)))
            clear hb z0 z1
            go_wp2_with fail
            go_ret2
            rw [HN.out]
            exact ⟨rfl, B5.out⟩
          | true => as_aux_lemma =>
            rw [hmx] at MA
            have XM := Box.mk ((SM.may_iff x).1 hmx)
            clear hmx
            go_wp2_with fail
            refine (MA.out _).mono ?_
            rintro e w5 ⟨rfl, hb⟩
            have B5 := Box.mk (HBk.out.trans (hb.mono (by have := HBk.out.size; have := HBM.out; omega)))
            have OB5 := Box.mk ((hb.block ob (Array.getElem?_eq_some_iff.1 OB.out).1).trans OB.out)
            have BF5 := Box.mk (bf_below BFk.out hb)
            have MO5 := Box.mk (MOk.out.kept (grownBy_of hb none) (by simp))
            clear hb z0 z1 OB BFk MOk HBk
            obtain ⟨z0, z1⟩ := sm_cells OB5.out
            have HKEY := Go.WideMaps.keyOf_string_mk (P := Try.prog) Try.underlying9 (s := x.name) (HMP.out.1 XM.out)
            have hj63 : j < maxLen := by unfold maxLen; have := HMP.out; omega
            go_wp2_with (at_mapUpdate; refine wpList_mapUpdate_own _ rfl _ _ _ 40 rfl 9 4 lawM Try.underlying40 _ M j _ rfl MO5.out hj63 _ _ _ rfl rfl HKEY _ [] (plainElem_bool Try.underlying4 true) ?_; intro w6 hown6 hgrow6)
            have MO6 := Box.mk (show w6.ownsMap Try.prog 9 (plainElem (H := Unit) Try.prog 4) M (j + 1) (nmD (l.take (j + 1))) by rw [TK.out, nm_snoc]; exact hown6)
            have BF6 := Box.mk (bf_map BF5.out MO5.out hgrow6 (by have := HBM.out; omega))
            have OB6 := Box.mk ((hgrow6.block ob (Array.getElem?_eq_some_iff.1 OB5.out).1 (by intro e; injection e with e; exact HMP.out.2.1 e)).trans OB5.out)
            have B6 := Box.mk (show Below B w w6 from B5.out.grown hgrow6 (by have := B5.out.size; have := HBM.out; omega) (fun k hk => by injection hk with hk; have := HBM.out; omega))
            have hxs : x.sum.size = 32 := XM.out.sum
            have HX := Box.mk (fun w => hex_any x.sum (by rw [hxs]; omega) w)
            obtain ⟨H, hH⟩ : ∃ H : ByteArray, H = ⟨(hexL x.sum.data.toList).toArray⟩ := ⟨_, rfl⟩
            rw [← hH] at HX
            have hHd : H.data.toList = hexL x.sum.data.toList := by rw [hH]
            have hHs : H.size = 64 := by rw [← ba_len, hHd]; exact SM.hex_len XM.out
            obtain ⟨T1, hT1⟩ : ∃ T, H ++ (⟨#[32, 32]⟩ : ByteArray) = T := ⟨_, rfl⟩
            have hT1s : T1.size = 66 := by rw [← hT1, ByteArray.size_append, hHs]; rfl
            obtain ⟨T2, hT2⟩ : ∃ T, T1 ++ x.name = T := ⟨_, rfl⟩
            obtain ⟨k, hk⟩ : ∃ k, k = x.name.size := ⟨_, rfl⟩
            have hks : x.name.size = k := hk.symm
            have hk100 : k ≤ 100 := by rw [hk]; exact XM.out.few
            have hT2s : T2.size = 66 + k := by rw [← hT2, ByteArray.size_append, hT1s, hks]
            obtain ⟨T3, hT3⟩ : ∃ T, T2 ++ (⟨#[10]⟩ : ByteArray) = T := ⟨_, rfl⟩
            have hT3s : T3.size = 67 + k := by rw [← hT3, ByteArray.size_append, hT2s]; show 66 + k + 1 = _; omega
            have LINE : Box (T3.data.toList = x.line) := ⟨by
              rw [← hT3, ba_app, ← hT2, ba_app, ← hT1, ba_app, hHd]; unfold SM.line; simp⟩
            have hlim1 : ¬ 9223372036854775807 < 66 + k := by omega
            have hlim2 : ¬ 9223372036854775807 < 66 + k + 1 := by omega
            have hlim3 : ¬ (9223372036854775807 : Int) < 66 + (k : Int) := by omega
            have hlim4 : ¬ (9223372036854775807 : Int) < 66 + (k : Int) + 1 := by omega
            have T3S := Box.mk hT3s; have K100 := Box.mk hk100
            clear hown6 hgrow6 z0 z1 MO5 BF5 OB5 B5 HKEY hj63 hxs hH hHd hk hT3s
            go_upto_region 11 with (fail)
            have RW := Box.mk (show w6.drew.heap[ob]? = some (.cells #[.string x.name, .string x.sum] 33 (0, 0)) from OB6.out)
            refine wp_region_mix 8 [.flo, .flo, .cha, .flo, .flo, .flo, .flo, .flo] (by kernel_rfl) (by kernel_rfl) rfl ?_
            simp only [List.take, List.zip, List.zipWith]
            try go_frame
            refine gm_flo (.pointer (some ⟨ob, 1, none⟩)) (fun w1 hw1 => ?_) ?_
            case refine_1 =>
              go_simp
            try go_frame
            refine gm_flo (.string x.sum) (fun w1 hw1 => ?_) ?_
            case refine_1 =>
              have e1 : w1.cell? ⟨ob, 1, none⟩ = some (.string x.sum) := (cell_of_row _ _ _ _ _ _ (hw1.at (by simp) RW.out)).trans rfl
              go_simp
            try go_frame
            refine gm_call [.string x.sum] (by kernel_rfl) rfl rfl Stb.tt (fun w1 hw1 hF1 => (HX.out w1).mono ?_)
            rintro e w2 ⟨rfl, hb⟩
            refine ⟨_, rfl, hb, ?_⟩
            clear hw1 hF1 hb w1 w2
            try go_frame
            refine gm_flo (.string T1) (fun w1 hw1 => ?_) ?_
            case refine_1 =>
              go_simp
            try go_frame
            refine gm_flo (.pointer (some ⟨ob, 0, none⟩)) (fun w1 hw1 => ?_) ?_
            case refine_1 =>
              go_simp
            try go_frame
            refine gm_flo (.string x.name) (fun w1 hw1 => ?_) ?_
            case refine_1 =>
              have e1 : w1.cell? ⟨ob, 0, none⟩ = some (.string x.name) := (cell_of_row _ _ _ _ _ _ (hw1.at (by simp) RW.out)).trans rfl
              go_simp
            try go_frame
            refine gm_flo (.string T2) (fun w1 hw1 => ?_) ?_
            case refine_1 =>
              go_simp
            try go_frame
            refine gm_flo (.string T3) (fun w1 hw1 => ?_) ?_
            case refine_1 =>
              go_simp
            try go_frame
            refine gm_nil ?_
            intro w9 hw9 hF9
            simp only [List.drop]
            try go_frame
            have U9 := Box.mk (Upd.belowN ((Upd.refl [] w6).drew.trans hw9.upd))
            clear hw9 hF9 RW hT1 hT2 hT3 hlim1 hlim2 hlim3 hlim4 hHs hT1s hT2s hks
            have BF9 := Box.mk (bf_below BF6.out U9.out)
            have MO9 := Box.mk (MO6.out.kept (grownBy_of U9.out none) (by simp))
            have B9 := Box.mk (B6.out.trans (U9.out.mono (by have := B6.out.size; have := HBM.out; omega)))
            have TL := Box.mk (show (Lib.byteCells (textM (l.take j))).length + T3.size ≤ 140737488355328 by
              have := text_len (l.take j) MAY.out
              have h2 : (l.take j).length ≤ 16 := by rw [List.length_take]; have := HLN.out; omega
              rw [Lib.byteCells_length, T3S.out]; have := K100.out; omega)
            clear BF6 MO6 B6 U9
            go_wp2_with fail
            refine (bwrite_any B B _ T3 _ BF9.out TL.out (by have := B9.out.size; have := HBM.out; omega)).mono ?_
            rintro e w7 ⟨rfl, h1, h2, h3⟩
            have BF7 := Box.mk (show Lib.IsBuilderF 39 5 B B (Lib.byteCells (textM (l.take (j + 1)))) w7 by
              rw [TK.out, textM_snoc, Lib.byteCells_append, ← LINE.out, ← Lib.strCells_eq]; exact .inr h1)
            have MO7 := Box.mk (map_others MO9.out h3 (by have := HBM.out; omega))
            have B7 := Box.mk (B9.out.trans h2)
            clear h1 h2 h3 BF9 MO9 B9
            go_wp2_with fail
            exact ⟨⟨j + 1, HMP.out.2.2, by go_num, by
              rw [TK.out]; intro y hy
              rcases List.mem_append.1 hy with hy | hy
              · exact MAY.out y hy
              · rw [List.mem_singleton] at hy; subst hy; exact XM.out, BF7.out, MO7.out, B7.out⟩, by have := HMP.out; simp [intOf]; omega⟩
        · as_aux_lemma =>
          obtain rfl : j = l.length := by omega
          have hltI : ¬ (l.length : Int) < (l.length : Int) := by omega
          have hm := MAY.out; have hbf := BF.out; have hmo := MO.out
          rw [List.take_length] at hm hbf hmo
          have PE := Box.mk (prV_end HLN.out.1 HLN.out.2 hm)
          have hds := nm_size l
          have BF2 := Box.mk hbf
          clear hm hbf MAY BF MO hlt hj
          obtain ⟨d, hd⟩ : ∃ d, d = distM l := ⟨_, rfl⟩
          rw [← hd] at PE hds
          have HSB := Box.mk (show B ≤ wr.heap.size by have := HB.out.size; have := HBM.out; omega)
          clear hd
          by_cases hdl : d < l.length
          · have hdI : (d : Int) < (l.length : Int) := by omega
            have HN : Box (V = .tuple #[.string ⟨#[]⟩, .int .i64 221]) := ⟨by rw [HV.out, PE.out, if_pos hdl]⟩
            clear hdl HV PE
            go_wp2_with (at_len; refine wpList_len_own _ rfl _ 40 rfl 9 4 Try.underlying40 _ M l.length _ rfl hmo ?_; rw [hds])
            go_wp2_with fail
            go_ret2
            rw [HN.out]
            exact ⟨rfl, HB.out⟩
          · have hdI : ¬ (d : Int) < (l.length : Int) := by omega
            have HN : Box (V = .tuple #[.string ⟨(textM l).toArray⟩, .int .i64 0]) := ⟨by rw [HV.out, PE.out, if_neg hdl]⟩
            clear hdl HV PE
            go_wp2_with (at_len; refine wpList_len_own _ rfl _ 40 rfl 9 4 Try.underlying40 _ M l.length _ rfl hmo ?_; rw [hds])
            go_wp2_with fail
            refine (Try.Builder_String_any_k B B (textM l) _ BF2.out HSB.out).mono ?_
            rintro e w7 ⟨rfl, _, h2, _⟩
            have B7 := Box.mk (HB.out.trans h2)
            clear h2
            go_wp2_with fail
            go_ret2
            rw [HN.out]
            exact ⟨rfl, B7.out⟩
end Go.Proofs.Ytafhncpaoolljaa
