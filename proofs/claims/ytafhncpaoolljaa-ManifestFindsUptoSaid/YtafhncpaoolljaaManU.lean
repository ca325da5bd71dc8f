/- Manifest: the document's Parse. -/
import Derived.Test.YtafhncpaoolljaaManK
import Derived.Test.YtafhncpaoolljaaManI
import Derived.Test.YtafhncpaoolljaaManF
namespace Go.Proofs.Ytafhncpaoolljaa
set_option maxRecDepth 100000
set_option linter.unusedVariables false
open Go Go.RowKit

theorem allD_none : ∀ (outs : List ByteArray) (o : ByteArray), o ∈ outs → lineD o.data.toList = none → allD outs = none
  | [], o, h, _ => by cases h
  | p :: outs, o, h, hl => by
    rcases List.mem_cons.1 h with rfl | h
    · rw [allD, hl]
    · rw [allD, allD_none outs o h hl]
      cases lineD p.data.toList <;> rfl
theorem allD_snoc : ∀ (outs : List ByteArray) (o : ByteArray) (l : List SM) (x : SM), allD outs = some l → lineD o.data.toList = some x → allD (outs ++ [o]) = some (l ++ [x])
  | [], o, l, x, h, hl => by rw [allD] at h; injection h with h; subst h; show allD [o] = _; rw [allD, hl]; rfl
  | p :: outs, o, l, x, h, hl => by
    rw [allD] at h
    show allD (p :: (outs ++ [o])) = _
    rw [allD]
    cases hp : lineD p.data.toList with
    | none => rw [hp] at h; cases h
    | some y =>
      rw [hp] at h
      dsimp only at h ⊢
      cases ha : allD outs with
      | none => rw [ha] at h; cases h
      | some r =>
        rw [ha] at h
        injection h with h
        rw [allD_snoc outs o r x ha hl, ← h]; rfl
theorem lineD_size {o : ByteArray} {x : SM} (h : lineD o.data.toList = some x) : x.name.size ≤ o.size ∧ x.sum.size ≤ o.size := by
  unfold lineD at h
  cases hu : unhexL (o.data.toList.take 64) with
  | none => rw [hu] at h; cases h
  | some d =>
    rw [hu] at h
    dsimp only at h
    split at h
    · injection h with h
      have := congrArg List.length (hex_unhex _ _ hu)
      rw [hexL_len, List.length_take, ba_len] at this
      rw [← h]
      refine ⟨?_, ?_⟩
      · rw [arr_size, List.length_drop, ba_len]; omega
      · rw [arr_size]; omega
    · cases h
theorem flatB_size : ∀ (outs : List ByteArray) (o : ByteArray), o ∈ outs → o.size ≤ (flatB outs).length
  | [], o, h => by cases h
  | p :: outs, o, h => by
    rw [flatB_cons, List.length_append, List.length_cons, ba_len]
    rcases List.mem_cons.1 h with rfl | h
    · omega
    · have := flatB_size outs o h; omega
theorem flatB_count : ∀ (outs : List ByteArray), outs.length ≤ (flatB outs).length
  | [] => Nat.le_refl _
  | p :: outs => by
    rw [flatB_cons, List.length_append, List.length_cons, List.length_cons]
    have := flatB_count outs; omega
theorem ownS_base {w : World} {base b2 size n : Nat} {e : TypeId} {v : Value} {xs : List Value} (h : w.ownsRow base e size v n xs) (hb : b2 ≤ base) : w.ownsRow b2 e size v n xs := by
  refine ⟨h.1, ?_⟩
  rcases h.2 with h' | ⟨g, cap, cur, a, b, c⟩
  · exact .inl h'
  · exact .inr ⟨g, cap, cur, a, Nat.le_trans hb b, c⟩
theorem ownS_made (w : World) (e : TypeId) (size base : Nat) (hb : base ≤ w.heap.size) : (w.alloc (.cells #[] e)).ownsRow base e size (.slice (some ⟨w.heap.size, 0, none⟩) 0 0) 0 [] :=
  ⟨by simp, .inr ⟨w.heap.size, 0, #[], rfl, hb, heap_alloc_new w _, Nat.le_refl _, by unfold maxLen; omega, by simp, by simp⟩⟩
theorem lineD_short {o : ByteArray} (h : o.size < 67) : lineD o.data.toList = none := by
  unfold lineD
  cases unhexL (o.data.toList.take 64) with
  | none => rfl
  | some d => dsimp only; rw [if_neg (by rw [ba_len]; omega)]
theorem mid_eq (o : ByteArray) : (o.extract 64 66).toList = (o.data.toList.drop 64).take 2 := by rw [ByteArray.toList_eq, ba_cutL]
theorem bl_list : (⟨#[32, 32]⟩ : ByteArray).toList = [32, 32] := by rw [ByteArray.toList_eq]
theorem lineD_mid {o : ByteArray} (h : (o.data.toList.drop 64).take 2 ≠ [32, 32]) : lineD o.data.toList = none := by
  unfold lineD
  cases unhexL (o.data.toList.take 64) with
  | none => rfl
  | some d => dsimp only; rw [if_neg (fun e => h e.2)]
theorem lineD_hex {o : ByteArray} (h : unhexL (o.extract 0 64).data.toList = none) : lineD o.data.toList = none := by
  rw [ba_cutL] at h
  unfold lineD
  rw [show o.data.toList.take 64 = (o.data.toList.drop 0).take (64 - 0) from rfl, h]
theorem ba_ext2 {a b : ByteArray} (h : a.data.toList = b.data.toList) : a = b := ByteArray.ext (Array.ext' h)
theorem lineD_ok {o : ByteArray} {d : List UInt8} (h1 : 67 ≤ o.size) (h2 : (o.data.toList.drop 64).take 2 = [32, 32]) (h : unhexL (o.extract 0 64).data.toList = some d) : lineD o.data.toList = some ⟨o.extract 66 o.size, ⟨d.toArray⟩⟩ := by
  rw [ba_cutL] at h
  unfold lineD
  rw [show o.data.toList.take 64 = (o.data.toList.drop 0).take (64 - 0) from rfl, h]
  dsimp only
  rw [if_pos ⟨by rw [ba_len]; exact h1, h2⟩]
  have : (⟨(o.data.toList.drop 66).toArray⟩ : ByteArray) = o.extract 66 o.size := by
    apply ba_ext2
    rw [ba_cutL, List.take_of_length_le (by rw [List.length_drop, ba_len]; exact Nat.le_refl _)]
  rw [this]
/-- What the document tells of all lines' sums. -/
def parD (o : Option (List SM)) : List SM × Int := match o with
  | none => ([], 220)
  | some l => if (printM 220 221 l).2 = 0 then (l, 0) else ([], (printM 220 221 l).2)
theorem parse_D {S tail : List UInt8} {outs : List ByteArray} (hS : S = flatB outs ++ tail) (ho : ∀ o ∈ outs, 10 ∉ o.data.toList) (ht : 10 ∉ tail) : parseM 220 221 S = if tail = [] ∧ outs ≠ [] then parD (allD outs) else ([], 220) := parse_lines hS ho ht
theorem parD_none : parD none = ([], 220) := rfl
theorem parD_some (l : List SM) : parD (some l) = if (printM 220 221 l).2 = 0 then (l, 0) else ([], (printM 220 221 l).2) := rfl
theorem lines_pos {s : ByteArray} {tail : List UInt8} {outs : List ByteArray} (hS : s.data.toList = flatB outs ++ tail) (h : (decide (tail = []) && decide (0 < s.size)) = true) : tail = [] ∧ outs ≠ [] := by
  rw [Bool.and_eq_true, decide_eq_true_iff, decide_eq_true_iff] at h
  refine ⟨h.1, fun e => ?_⟩
  rw [h.1, e] at hS
  have h3 := congrArg List.length hS
  rw [ba_len] at h3
  have h4 : (flatB [] ++ ([] : List UInt8)).length = 0 := rfl
  have := h.2
  omega
theorem lines_neg {s : ByteArray} {tail : List UInt8} {outs : List ByteArray} (hS : s.data.toList = flatB outs ++ tail) (h : (decide (tail = []) && decide (0 < s.size)) = false) : ¬ (tail = [] ∧ outs ≠ []) := by
  rintro ⟨ht, ho⟩
  have hp : 0 < s.size := by
    have h2 := congrArg List.length hS
    rw [ba_len, List.length_append] at h2
    have h3 := flatB_count outs
    have h4 : 0 < outs.length := List.length_pos_iff.2 ho
    omega
  rw [decide_eq_true ht, decide_eq_true hp] at h
  cases h
set_option maxHeartbeats 8000000 in
theorem rparse_any (s : ByteArray) (hs : s.size ≤ 1500000) (w : World) : Calls Try.prog 12 #[.string s] w (ParV s.data.toList w) := by
  obtain ⟨S, hS⟩ : ∃ S, S = s.data.toList := ⟨_, rfl⟩
  obtain ⟨B, hB⟩ : ∃ B, B = w.heap.size := ⟨_, rfl⟩
  have HBW := Box.mk hB
  obtain ⟨i0, hi0, hz0, hsz0, hby0⟩ := info_parts infoSm
  have LI := Box.mk (lines_any s hs w)
  unfold LinesV at LI
  rw [← hS, ← hB] at LI
  have HSS := Box.mk hS
  rw [← hS]
  clear hS
  go_enter Try.func12, Try.ntmps12
  go_wp2_with fail
  refine LI.out.mono ?_
  rintro e w1 ⟨v, outs, tail, rfl, ho, hnv, hSe, hno, hnt, hb1⟩
  obtain ⟨bg, cap0, rfl, hbg, hcl, hbl, hncap⟩ := ho.cells hnv
  obtain ⟨n, hn⟩ : ∃ n, n = outs.length := ⟨_, rfl⟩
  rw [← hn] at hncap ⊢
  have PL := Box.mk (parse_D hSe hno hnt)
  have CL := Box.mk hcl; have HB1 := Box.mk hb1; have HBG := Box.mk hbl
  have LS := Box.mk (show ∀ o ∈ outs, o.size ≤ 1500000 from fun o ho => by
    have h1 := flatB_size outs o ho
    have h2 := congrArg List.length hSe
    rw [HSS.out, ba_len, List.length_append] at h2
    omega)
  have HN := Box.mk hn
  obtain ⟨ok, hok⟩ : ∃ b, b = (decide (tail = []) && decide (0 < s.size)) := ⟨_, rfl⟩
  rw [← hok]
  have HOK := Box.mk hok
  have HNE := Box.mk hSe
  clear ho hnv hSe hno hnt hcl hb1 hn hok hbg LI hncap hbl hB
  cases ok with
  | false => as_aux_lemma =>
    have HV : Box (parseM 220 221 S = ([], 220)) := ⟨by
      rw [PL.out, if_neg (lines_neg (HSS.out ▸ HNE.out) HOK.out.symm)]⟩
    clear PL HOK
    go_wp2_with fail
    go_ret2
    unfold ParV
    rw [HV.out]
    exact ⟨HBW.out ▸ HB1.out, _, rfl, World.ownsRow_nil _ _ _ _, fun x hx => by cases hx⟩
  | true =>
    by_cases h16 : 16 < n
    · as_aux_lemma =>
      have h16I : (16 : Int) < (n : Int) := by omega
      have HV : Box (parseM 220 221 S = ([], 220)) := ⟨by
        rw [PL.out]
        split
        · cases ha : allD outs with
          | none => rfl
          | some l =>
            rw [parD_some, printM_long 220 221 (by rw [allD_len _ _ ha, ← HN.out]; exact h16), if_neg (by decide)]
        · rfl⟩
      clear PL HOK h16
      go_wp2_with fail
      go_ret2
      unfold ParV
      rw [HV.out]
      exact ⟨HBW.out ▸ HB1.out, _, rfl, World.ownsRow_nil _ _ _ _, fun x hx => by cases hx⟩
    · have h16I : ¬ (16 : Int) < (n : Int) := by omega
      have H16 := Box.mk (show n ≤ 16 by omega)
      have HV : Box (parseM 220 221 S = parD (allD outs)) := ⟨by
        rw [PL.out, if_pos (lines_pos (HSS.out ▸ HNE.out) HOK.out.symm)]⟩
      clear PL HOK HNE h16
      obtain ⟨B2, hB2⟩ : ∃ B2, B2 = w1.heap.size := ⟨_, rfl⟩
      have O0 := Box.mk (show (w1.alloc (.cells #[] 33)).ownsRow B2 33 2 (.slice (some ⟨B2, 0, none⟩) 0 0) 0 [] by rw [hB2]; exact ownS_made w1 33 2 _ (Nat.le_refl _))
      have B0 := Box.mk (show Below B2 w1 (w1.alloc (.cells #[] 33)) by rw [hB2]; exact (Below.refl _ _).alloc (Nat.le_refl _) _)
      have HB2 := Box.mk hB2
      go_wp2_with fail
      rw [← hB2]
      clear hB2
      go_loopw [6, 7] (fun v i wr => ∃ (j : Nat) (ls : List SM) (ao : Option Addr) (cap : Nat), j ≤ n ∧ v = .slice ao ls.length cap ∧ i = .int .i64 (j : Int) ∧ ls.length = j ∧ allD (outs.take j) = some ls ∧ (∀ x ∈ ls, x.name.size ≤ 1500000 ∧ x.sum.size ≤ 1500000) ∧ wr.ownsRow B2 33 2 (.slice ao ls.length cap) ls.length (smC ls) ∧ Below B2 w1 wr) (fun _ i _ => n - (intOf i).toNat)
      case atStart => exact ⟨0, [], _, 0, Nat.zero_le _, rfl, rfl, rfl, rfl, (fun x hx => by cases hx), O0.out, B0.out⟩
      case round =>
        clear O0 B0
        obtain ⟨j, ls, ao, cap, hj, rfl, rfl, hlj, hal, hsz, how, hb⟩ := hrel
        have AL := Box.mk hal; have SZ := Box.mk hsz; have OW := Box.mk how; have HB := Box.mk hb; have LJ := Box.mk hlj
        clear hal hsz how hb hlj
        by_cases hlt : j < n
        · have hjI : (j : Int) < (n : Int) := by omega
          obtain ⟨o, hoe⟩ : ∃ o, outs[j]? = some o := ⟨_, List.getElem?_eq_getElem (by rw [← HN.out]; exact hlt)⟩
          have HM := Box.mk (List.mem_of_getElem? hoe)
          have TK : Box (outs.take (j + 1) = outs.take j ++ [o]) := ⟨by rw [List.take_add_one, hoe]; rfl⟩
          have c1 : wr.cell? ⟨bg, j, none⟩ = some (.string o) := (HB.out.cell (p := ⟨bg, j, none⟩) (by rw [HB2.out]; exact HBG.out)).trans (CL.out j (.string o) (by rw [List.getElem?_map, hoe]; rfl))
          have HLT := Box.mk hlt
          have HJ := Box.mk hj
          clear hoe hlt hj
          obtain ⟨m, hm⟩ : ∃ m, m = o.size := ⟨_, rfl⟩
          have hme : o.size = m := hm.symm
          have HME := Box.mk hme
          by_cases h67 : m < 67
          · as_aux_lemma =>
            have h67I : (m : Int) < 67 := by omega
            have HR : Box (parseM 220 221 S = ([], 220)) := ⟨by rw [HV.out, allD_none outs o HM.out (lineD_short (by rw [← hm]; exact h67)), parD_none]⟩
            clear HV h67 hm
            go_wp2_with fail
            go_ret2
            unfold ParV
            rw [HR.out]
            exact ⟨HBW.out ▸ HB1.out.trans (HB.out.mono (by have := HB1.out.size; have := HB2.out; have := HBW.out; omega)), _, rfl, World.ownsRow_nil _ _ _ _, fun x hx => by cases hx⟩
          · have h67I : ¬ (m : Int) < 67 := by omega
            have hx1 : (64 : Int) ≤ 66 := by decide
            have hx2 : (66 : Int) ≤ (m : Int) := by omega
            have hx3 : (64 : Int) ≤ (m : Int) := by omega
            have H67 := Box.mk (show 67 ≤ o.size by omega)
            by_cases hmid : (o.data.toList.drop 64).take 2 = [32, 32]
            · have q1 : ((o.extract 64 66).toList == [32, 32]) = true := by rw [beq_iff_eq, mid_eq]; exact hmid
              have q2 : ((o.extract 64 66).toList != [32, 32]) = false := by rw [bne_eq_false_iff_eq, mid_eq]; exact hmid
              have MID := Box.mk hmid
              clear h67 hm hmid
              have UN := Box.mk (runhex_any (o.extract 0 64) (by rw [ByteArray.size_extract]; omega) wr)
              unfold unV at UN
              cases hu : unhexL (o.extract 0 64).data.toList with
              | none => as_aux_lemma =>
                rw [hu] at UN
                dsimp only at UN
                have HR : Box (parseM 220 221 S = ([], 220)) := ⟨by rw [HV.out, allD_none outs o HM.out (lineD_hex hu), parD_none]⟩
                clear HV hu
                go_wp2_with fail
                refine UN.out.mono ?_
                rintro e w2 ⟨rfl, hb2⟩
                have B3 := Box.mk (HB.out.trans (hb2.mono (by have := HB.out.size; have := HB2.out; omega)))
                clear hb2 UN
                go_wp2_with fail
                go_ret2
                unfold ParV
                rw [HR.out]
                exact ⟨HBW.out ▸ HB1.out.trans (B3.out.mono (by have := HB1.out.size; have := HB2.out; have := HBW.out; omega)), _, rfl, World.ownsRow_nil _ _ _ _, fun x hx => by cases hx⟩
              | some dl => as_aux_lemma =>
                rw [hu] at UN
                dsimp only at UN
                obtain ⟨x, hx⟩ : ∃ x : SM, x = ⟨o.extract 66 o.size, ⟨dl.toArray⟩⟩ := ⟨_, rfl⟩
                have hxn : x.name = o.extract 66 o.size := by rw [hx]
                have hxs : x.sum = ⟨dl.toArray⟩ := by rw [hx]
                have LD := Box.mk (lineD_ok H67.out MID.out hu)
                rw [← hx] at LD
                have XS := Box.mk (lineD_size LD.out)
                have NX := Box.mk (allD_snoc _ _ _ _ AL.out LD.out)
                rw [← TK.out] at NX
                have NM := Box.mk hxn
                rw [← hxs] at UN
                rw [HME.out] at NM
                clear hu hx hxn hxs
                go_wp2_with fail
                refine UN.out.mono ?_
                rintro e w2 ⟨rfl, hb2⟩
                have B3 := Box.mk (HB.out.trans (hb2.mono (by have := HB.out.size; have := HB2.out; omega)))
                have O3 := Box.mk (ownS_below OW.out hb2)
                have c2 := (hb2.cell (p := ⟨bg, j, none⟩) (World.block_lt_of_cell? _ _ c1)).trans c1
                have hl1 : ls.length + 1 ≤ maxLen := by unfold maxLen; have := H16.out; have := LJ.out; omega
                have hl2 : (ls.length + 1) * 32 ≤ 140737488355328 := by have := H16.out; have := LJ.out; omega
                clear hb2 UN OW HB c1
                go_wp2_with (at_builtin; rw [← NM.out]; refine wpList_append_own _ rfl (.tmp 56) (.tmp 64) 22 rfl B2 33 i0 _ 2 32 Try.underlying22 hi0 hz0 hsz0 hby0 rfl (by decide) (.slice ao ls.length cap) ls.length (smC ls) rfl (ownS_alloc O3.out _) ⟨w2.heap.size, 0, none⟩ 1 1 [.string x.name, .string x.sum] rfl rfl (two_cells w2 _ _ _) (fun u hu => by simp at hu; rcases hu with rfl | rfl <;> rfl) hl1 hl2 (by have := B3.out.size; have := HB2.out; simp; omega) ?_; intro v' w6 hown' hgrow hnil)
                obtain ⟨ao', cap', rfl⟩ := own_slice hown'
                have O6 := Box.mk hown'
                have B6 := Box.mk ((B3.out.alloc (by have := B3.out.size; have := HB2.out; omega) (.cells #[.string x.name, .string x.sum] 33)).grown hgrow (by have := B3.out.size; have := HB2.out; simp; omega) (fun k hk => (World.ownsRow.lt (ownS_alloc O3.out (.cells #[.string x.name, .string x.sum] 33)) k hk).1))
                clear hown' hgrow hnil O3 B3 c2
                go_wp2_with fail
                refine ⟨⟨j + 1, ls ++ [x], ao', cap', HLT.out, by rw [List.length_append]; rfl, by go_num, by rw [List.length_append, LJ.out]; rfl, NX.out, ?_, ?_, B6.out⟩, ?_⟩
                · intro y hy
                  rcases List.mem_append.1 hy with hy | hy
                  · exact SZ.out y hy
                  · rw [List.mem_singleton] at hy; subst hy; have := XS.out; have := LS.out o HM.out; omega
                · rw [smC_app, List.length_append]; exact O6.out
                · have := HLT.out; simp [intOf]; omega
            · as_aux_lemma =>
              have q1 : ((o.extract 64 66).toList == [32, 32]) = false := by rw [beq_eq_false_iff_ne, mid_eq]; exact hmid
              have q2 : ((o.extract 64 66).toList != [32, 32]) = true := by rw [bne_iff_ne, mid_eq]; exact hmid
              have HR : Box (parseM 220 221 S = ([], 220)) := ⟨by rw [HV.out, allD_none outs o HM.out (lineD_mid hmid), parD_none]⟩
              clear HV h67 hm hmid
              go_wp2_with fail
              go_ret2
              unfold ParV
              rw [HR.out]
              exact ⟨HBW.out ▸ HB1.out.trans (HB.out.mono (by have := HB1.out.size; have := HB2.out; have := HBW.out; omega)), _, rfl, World.ownsRow_nil _ _ _ _, fun x hx => by cases hx⟩
        · as_aux_lemma =>
          obtain rfl : j = n := by omega
          have hjI : ¬ (j : Int) < (j : Int) := by omega
          have EX : Box (parseM 220 221 S = if (printM 220 221 ls).2 = 0 then (ls, 0) else ([], (printM 220 221 ls).2)) := ⟨by
            rw [HV.out]
            have h := AL.out
            rw [HN.out, List.take_length] at h
            rw [h, parD_some]⟩
          clear hlt hj HV
          have SS := Box.mk (sums_of_own OW.out (by unfold maxLen; have := LJ.out; have := H16.out; omega) (fun x hx => ⟨Nat.le_trans (SZ.out x hx).1 (by unfold maxLen; omega), Nat.le_trans (SZ.out x hx).2 (by unfold maxLen; omega)⟩))
          have PR := Box.mk (rprint_any ls _ wr SS.out)
          unfold prV at PR
          obtain ⟨C, hC⟩ : ∃ C, C = (printM 220 221 ls).2 := ⟨_, rfl⟩
          rw [← hC] at PR EX
          have HCC := Box.mk hC
          clear hC SS
          go_wp2_with fail
          refine PR.out.mono ?_
          rintro e w2 ⟨rfl, hb⟩
          have B3 := Box.mk (HB.out.trans (hb.mono (by have := HB.out.size; have := HB2.out; omega)))
          have OW2 := Box.mk (ownS_base (b2 := B) (ownS_below OW.out hb) (by have := HB1.out.size; have := HB2.out; have := HBW.out; omega))
          clear hb PR OW HB
          by_cases hc0 : C = 0
          · have hcI : (C != 0) = false := by rw [bne_eq_false_iff_eq]; exact hc0
            have HR : Box (parseM 220 221 S = (ls, 0)) := ⟨by rw [EX.out, if_pos hc0]⟩
            have FM := Box.mk (printM_ok (F := 220) (T := 221) (by decide) (by decide) (printM_text (F := 220) (T := 221) (HCC.out.symm.trans hc0) (by decide) (by decide))).2.1
            clear hc0
            go_wp2_with fail
            go_ret2
            unfold ParV
            rw [HR.out]
            exact ⟨HBW.out ▸ HB1.out.trans (B3.out.mono (by have := HB1.out.size; have := HB2.out; have := HBW.out; omega)), _, rfl, HBW.out ▸ OW2.out, FM.out⟩
          · have hcI : (C != 0) = true := by rw [bne_iff_ne]; exact hc0
            have HR : Box (parseM 220 221 S = ([], C)) := ⟨by rw [EX.out, if_neg hc0]⟩
            clear hc0
            go_wp2_with fail
            go_ret2
            unfold ParV
            rw [HR.out]
            exact ⟨HBW.out ▸ HB1.out.trans (B3.out.mono (by have := HB1.out.size; have := HB2.out; have := HBW.out; omega)), _, rfl, World.ownsRow_nil _ _ _ _, fun x hx => by cases hx⟩
end Go.Proofs.Ytafhncpaoolljaa
