/- Logs: Records. The document of logs: Records. -/
import Derived.Test.YtjednaendedpdaaGreatM10
namespace Go.Proofs.YtjednaendedpdaaGreat
set_option maxRecDepth 100000
set_option linter.unusedVariables false
open Go Go.RowKit

theorem rec1_any (x y : Int) (b : Nat) (num : Int) (w : World) (hb : w.cell? ⟨b, 0, none⟩ = some (.int .i64 num)) :
    Calls Tryz.prog 70 #[.agg #[.int .i64 x, .int .i64 y], .pointer (some ⟨b, 0, none⟩)] w fun e w' => e = .returned (.bool (y == num)) ∧ Below w.heap.size w w' := by
  have hb1 := cellA (.cells #[.int .i64 x, .int .i64 y] 78) hb
  go_enter Tryz.func70, Tryz.ntmps70
  go_wp2
  go_ret
  exact ⟨rfl, (Below.refl _ _).alloc (Nat.le_refl _) _⟩
/-- Where a segment with a number stands. -/
def IdxOf (l : List (Nat × Nat)) (num k : Int) : Prop := (k = -1 ∧ ∀ x ∈ l, (x.2 : Int) ≠ num) ∨ ∃ (i : Nat) (x : Nat × Nat), k = (i : Int) ∧ l[i]? = some x ∧ (x.2 : Int) = num ∧ ∀ j y, j < i → l[j]? = some y → (y.2 : Int) ≠ num
set_option maxHeartbeats 1000000 in
theorem sidx_any (gs cap : Nat) (l : List (Nat × Nat)) (b : Nat) (num : Int) (w : World) (hl : l.length ≤ 1000) (hb : w.cell? ⟨b, 0, none⟩ = some (.int .i64 num)) (hbl : b < w.heap.size) (hgl : gs < w.heap.size)
    (hc : ∀ j s, l[j]? = some s → w.cell? ⟨gs, j * 2, none⟩ = some (.int .i64 (s.1 : Int)) ∧ w.cell? ⟨gs, j * 2 + 1, none⟩ = some (.int .i64 (s.2 : Int))) :
    Calls Tryz.prog 69 #[.slice (some ⟨gs, 0, none⟩) l.length cap, .func (.func 70) #[] #[.pointer (some ⟨b, 0, none⟩)]] w fun e w' => ∃ k, e = .returned (.int .i64 k) ∧ IdxOf l num k ∧ Below w.heap.size w w' := by
  go_enter Tryz.func69, Tryz.ntmps69
  go_wp2_with fail
  go_loopw [8, 5] (fun i _ wr => ∃ j : Nat, j ≤ l.length ∧ i = .int .i64 (j : Nat) ∧ (∀ k y, k < j → l[k]? = some y → (y.2 : Int) ≠ num) ∧ Below w.heap.size w wr) (fun i _ _ => l.length - (intOf i).toNat)
  case atStart => exact ⟨0, by omega, rfl, fun k y hk => by omega, Below.refl _ _⟩
  case round =>
    obtain ⟨j, hj, rfl, hno, hbw⟩ := hrel
    have HNO := Box.mk hno; have HBW := Box.mk hbw
    by_cases hlt : j < l.length
    · have hltI : (j : Int) < (l.length : Int) := by omega
      obtain ⟨x, hx⟩ : ∃ x, l[j]? = some x := ⟨_, List.getElem?_eq_getElem hlt⟩
      obtain ⟨s0, s1⟩ := hc j x hx
      have c0 := (hbw.cell (p := ⟨gs, j * 2, none⟩) hgl).trans s0
      have c1 := (hbw.cell (p := ⟨gs, j * 2 + 1, none⟩) hgl).trans s1
      have R1 := Box.mk (rec1_any (x.1 : Int) (x.2 : Int) b num wr ((hbw.cell (p := ⟨b, 0, none⟩) hbl).trans hb))
      have HX := Box.mk hx; have HL := Box.mk hlt
      clear hno hbw s0 s1 hx hlt
      by_cases hn : (x.2 : Int) = num
      · have hnb : ((x.2 : Int) == num) = true := by rw [beq_iff_eq]; exact hn
        rw [hnb] at R1
        have HN := Box.mk hn
        clear hn hnb
        go_wp2_with fail
        refine R1.out.mono ?_
        rintro e w1 ⟨rfl, hb1⟩
        have B1 := Box.mk (HBW.out.trans (hb1.mono HBW.out.size))
        clear hb1
        go_wp2_with fail
        go_ret
        exact ⟨_, rfl, .inr ⟨j, x, rfl, HX.out, HN.out, HNO.out⟩, B1.out⟩
      · have hnb : ((x.2 : Int) == num) = false := by rw [beq_eq_false_iff_ne]; exact hn
        rw [hnb] at R1
        have HN := Box.mk hn
        clear hn hnb
        go_wp2_with fail
        refine R1.out.mono ?_
        rintro e w1 ⟨rfl, hb1⟩
        have B1 := Box.mk (HBW.out.trans (hb1.mono HBW.out.size))
        clear hb1
        go_wp2_with fail
        exact ⟨⟨j + 1, HL.out, by go_num, fun k y hk hy => by
          rcases Nat.lt_succ_iff_lt_or_eq.1 hk with h | rfl
          · exact HNO.out k y h hy
          · rw [HX.out] at hy; cases hy; exact HN.out, B1.out⟩, by have := HL.out; simp [intOf]; omega⟩
    · have hltI : ¬ (j : Int) < (l.length : Int) := by omega
      obtain rfl : j = l.length := by omega
      clear hno hbw
      go_wp2_with fail
      go_ret
      exact ⟨_, rfl, .inl ⟨rfl, fun y hy => by
        obtain ⟨k, hk, hk2⟩ := List.mem_iff_getElem.1 hy
        exact HNO.out k y hk (by rw [List.getElem?_eq_getElem hk, hk2])⟩, HBW.out⟩
theorem Upd.below9 {a b : World} (u : Upd [] a b) : Below a.heap.size a b := ⟨u.os, u.tape, u.output, u.size, fun i hi => u.block i hi (by simp)⟩
theorem recs_fuel (s : List UInt8) : ∀ (n f p : Nat), f ≤ n → 8 ≤ f + p → recsFrom s f p = recsFrom s (8 - p) p
  | n, 0, p, _, h => by rw [show 8 - p = 0 by omega]
  | 0, f + 1, p, h1, _ => by omega
  | n + 1, f + 1, p, h1, h => by
    by_cases hp : p < 8
    · rw [show 8 - p = (7 - p) + 1 by omega, recsFrom, recsFrom, if_pos hp, if_pos hp]
      split
      · rw [recs_fuel s n f (p + 1) (by omega) (by omega), show 8 - (p + 1) = 7 - p by omega]
      · rename_i hr
        have hr0 : 0 < (recL s p).2 := Nat.pos_of_ne_zero hr
        rcases Nat.lt_or_ge n (7 - p) with hlt | hge
        · exact absurd hlt (by omega)
        · rw [recs_fuel s n f (p + (recL s p).2) (by omega) (by omega), recs_fuel s n (7 - p) (p + (recL s p).2) hge (by omega)]
    · rw [show 8 - p = 0 by omega]
      show (if p < 8 then _ else []) = _
      rw [if_neg hp]; rfl
/-- What Records leaves. -/
def LRec (w : World) (V : Except Int (List (List UInt8))) (e : Ending) (w' : World) : Prop :=
  match V with
  | .error x => e = .returned (.tuple #[.slice none 0 0, .int .i64 x])
  | .ok rs => ∃ v, e = .returned (.tuple #[v, .int .i64 0]) ∧ w'.ownsRow w.heap.size 9 1 v rs.length (rs.map fun r => .string ⟨r.toArray⟩)
set_option maxHeartbeats 4000000 in
theorem lrecords_any (g q p bb cb : Nat) (F B : Nat) (v : Value) (s : FS) (l : LS) (num : Int) (w : World) (h : LgS w (F : Nat) (B : Nat) g q p bb cb v s l) (hk : l.Ok B) :
    Calls Tryz.prog 38 #[.pointer (some ⟨g, 0, none⟩), .int .i64 num] w fun e w' => LRec w (s.lrecs F l num) e w' ∧ LgS w' (F : Nat) (B : Nat) g q p bb cb v s l ∧ Below w.heap.size w w' := by
  have hB : B ≤ 256 := by have h1 := h.i.hi; have h2 := h.i.lo; have h3 := h.i.few; omega
  have hfew := hk.few
  obtain ⟨R, hR⟩ : ∃ R, R = s.lrecs F l num := ⟨_, rfl⟩
  rw [← hR]
  unfold FS.lrecs at hR
  obtain ⟨gs, cap, rfl, hs⟩ := h.lg.seg hk.ne
  have hgs : gs < w.heap.size := (World.ownsRow.lt h.lg.own gs rfl).2
  obtain ⟨W, hW⟩ : ∃ W, W = w.alloc (.cells #[.int .i64 num] 3) := ⟨_, rfl⟩
  have hWc : W.cell? ⟨w.heap.size, 0, none⟩ = some (.int .i64 num) := by rw [hW, cell_of_row _ _ _ _ _ _ (heap_alloc_new _ _)]; rfl
  have bW : Below w.heap.size w W := by rw [hW]; exact (Below.refl _ _).alloc (Nat.le_refl _) _
  have hWs : W.heap.size = w.heap.size + 1 := by rw [hW]; simp
  have H0 := Box.mk h
  have H := Box.mk (h.keep (Upd.of_below bW))
  obtain ⟨c0, c1, c2⟩ := H.out.lg.cells
  have IX := Box.mk (sidx_any gs cap l.segs w.heap.size num W (by omega) hWc (by omega) (by omega) (fun j x hj => by
    obtain ⟨a, b⟩ := hs j x hj
    exact ⟨(bW.cell (p := ⟨gs, _, none⟩) hgs).trans a, (bW.cell (p := ⟨gs, _, none⟩) hgs).trans b⟩))
  have BW := Box.mk bW; have HWS := Box.mk hWs
  clear hWc hgs hs bW hWs
  go_enter Tryz.func38, Tryz.ntmps38
  go_upto_region 1 with (fail)
  rw [← hW]
  clear hW
  go_wp2_with fail
  refine IX.out.mono ?_
  rintro e w1 ⟨k, rfl, hix, hb1⟩
  have B1 := Box.mk (BW.out.trans (hb1.mono BW.out.size))
  have H1 := Box.mk (H.out.keep (Upd.of_below hb1))
  clear hb1 IX c0 c1 c2
  obtain ⟨c0, c1, c2⟩ := H1.out.lg.cells
  rcases hix with ⟨rfl, hno⟩ | ⟨i, x, rfl, hx, hxn, hno⟩
  · have hf : l.segs.find? (fun x => (x.2 : Int) == num) = none := by
      rw [List.find?_eq_none]; intro x hx; rw [beq_iff_eq]; exact hno x hx
    rw [hf] at hR
    dsimp only at hR
    subst hR
    clear hno hf
    go_wp2_with fail
    go_ret2
    exact ⟨rfl, H1.out, B1.out⟩
  · have hf : l.segs.find? (fun x => (x.2 : Int) == num) = some x := by
      have hil := (List.getElem?_eq_some_iff.1 hx).1
      rw [List.find?_eq_some_iff_append]
      refine ⟨by rw [beq_iff_eq]; exact hxn, l.segs.take i, l.segs.drop (i + 1), ?_, fun y hy => ?_⟩
      · rw [← List.take_append_drop i l.segs]
        congr 1
        · simp
        · rw [List.drop_eq_getElem_cons hil]
          rw [List.getElem?_eq_getElem hil] at hx
          cases hx; simp
      · obtain ⟨j, hj, hj2⟩ := List.mem_iff_getElem.1 hy
        rw [List.length_take] at hj
        have := hno j y (by omega) (by rw [← hj2, List.getElem_take]; exact List.getElem?_eq_getElem _)
        simpa using this
    rw [hf] at hR
    dsimp only at hR
    have hkI : ¬ ((i : Nat) : Int) < 0 := by omega
    have hiI : (i : Int) < (l.segs.length : Int) := by have := (List.getElem?_eq_some_iff.1 hx).1; omega
    have hxB : x.1 < B := hk.blk x (List.mem_of_getElem? hx)
    clear hno hf hxn
    cases hld : l.dead with
    | true =>
      rw [hld] at hR c2
      rw [Bool.true_or, if_pos rfl] at hR
      subst hR
      go_wp2_with fail
      go_ret2
      exact ⟨rfl, H1.out, B1.out⟩
    | false =>
      rw [hld] at hR c2
      rw [Bool.false_or] at hR
      have HR := Box.mk hR
      obtain ⟨A, hA, HA⟩ : ∃ y : Nat, IntKind.i64.wrap ((x.1 : Int) * 512) = (y : Int) ∧ Box (y = 512 * x.1) := ⟨512 * x.1, by rw [IntKind.wrap_i64]; omega, ⟨rfl⟩⟩
      have hA2 : A ≤ 200000 := by have := HA.out; omega
      have PR := Box.mk (fun w (h : LgS w (F : Nat) (B : Nat) g q p bb cb (.slice (some ⟨gs, 0, none⟩) l.segs.length cap) s l) => pread_any q p bb cb (F : Nat) (B : Nat) s (A : Nat) 512 w h.f h.ok h.pa h.i (by omega) (by omega))
      have hpv : preadV s (F : Nat) (B : Nat) (A : Nat) 512 = if s.dead then (⟨#[]⟩, 2) else (⟨(s.blk F x.1).toArray⟩, 0) := by
        have hin : inB (B : Int) (A : Nat) 512 = true := by rw [inB_iff, HA.out]; omega
        unfold preadV FS.blk
        rw [if_pos hin, HA.out, show (512 * (F : Int) + ((512 * x.1 : Nat) : Int)).toNat = 512 * (F + x.1) by omega]; rfl
      have HPV := Box.mk hpv
      have HBL : Box ((s.blk F x.1).length = 512) := ⟨by
        have h1 := h.ok.len; have h2 := h.i.hi
        unfold FS.blk; rw [List.length_take, List.length_drop, h1]; omega⟩
      generalize preadV s (F : Nat) (B : Nat) (A : Nat) 512 = P at PR HPV
      obtain ⟨P1, P2⟩ := P
      dsimp only at PR
      obtain ⟨cur, hcur, htk⟩ : ∃ cur, w1.heap[gs]? = some (.cells cur 78 (0, 0)) ∧ cur.toList.take (l.segs.length * 2) = segC l.segs := by
        rcases H1.out.lg.own.2 with ⟨h, _⟩ | ⟨g', c, cur, hv, _, hqa, _, _, hqb, hqc⟩
        · cases h
        · cases hv; exact ⟨cur, hqa, hqc⟩
      have HGS := Box.mk hcur
      have HX1 : Box (cur[i * 2]? = some (.int .i64 (x.1 : Nat))) := ⟨by
        have h1 := (segC_at l.segs i x hx).1
        rw [← htk, List.getElem?_take, Nat.mul_comm] at h1
        split at h1
        · simpa using h1
        · cases h1⟩
      obtain ⟨n, hn⟩ : ∃ n, n = l.segs.length := ⟨_, rfl⟩
      have HNn := Box.mk hn
      rw [← hn] at c1 hiI H1 PR ⊢
      obtain ⟨x1, x2⟩ := x
      dsimp only at hA HX1 HPV HBL HR
      clear hR hx hxB hpv hcur htk hn h hB hfew
      go_upto_region 6 with (fail)
      refine wp_region_mixS [] (fun w => LgS w (F : Nat) (B : Nat) g q p bb cb (.slice (some ⟨gs, 0, none⟩) n cap) s l) (fun w w' hg h => h.keep hg.upd) (H1.out.keep (Upd.refl [] w1).drew) ((by simp)) 18 [.flo, .flo, .flo, .flo, .flo, .flo, .flo, .flo, .flo, .flo, .flo, .flo, .flo, .cha, .flo, .flo, .flo, .flo] (by kernel_rfl) (by kernel_rfl) rfl ?_
      simp only [List.take, List.zip, List.zipWith]
      try go_frame
      refine gm_move (.tmp 0) (.inl rfl) (.pointer (some ⟨g, 0, none⟩)) rfl ?_
      try go_frame
      refine gm_flo (.pointer (some ⟨g, 0, none⟩)) (fun w1 hw1 => ?_) ?_
      case refine_1 =>
        go_simp
      try go_frame
      refine gm_flo (.pointer (some ⟨g, 0, none⟩)) (fun w1 hw1 => ?_) ?_
      case refine_1 =>
        go_simp
      try go_frame
      refine gm_flo (.pointer (some ⟨q, 0, none⟩)) (fun w1 hw1 => ?_) ?_
      case refine_1 =>
        have e1 : w1.cell? ⟨g, 0, none⟩ = some (.pointer (some ⟨q, 0, none⟩)) := (cell_of_row _ _ _ _ _ _ (hw1.at ((by simp)) H1.out.lg.row)).trans rfl
        go_simp
      try go_frame
      refine gm_move (.tmp 0) (.inl rfl) (.pointer (some ⟨g, 0, none⟩)) rfl ?_
      try go_frame
      refine gm_flo (.pointer (some ⟨g, 0, none⟩)) (fun w1 hw1 => ?_) ?_
      case refine_1 =>
        go_simp
      try go_frame
      refine gm_flo (.pointer (some ⟨g, 1, none⟩)) (fun w1 hw1 => ?_) ?_
      case refine_1 =>
        go_simp
      try go_frame
      refine gm_flo (.slice (some ⟨gs, 0, none⟩) n cap) (fun w1 hw1 => ?_) ?_
      case refine_1 =>
        have e1 : w1.cell? ⟨g, 1, none⟩ = some (.slice (some ⟨gs, 0, none⟩) n cap) := (cell_of_row _ _ _ _ _ _ (hw1.at ((by simp)) H1.out.lg.row)).trans rfl
        go_simp
      try go_frame
      refine gm_move (.tmp 6) (.inl rfl) (.int .i64 (i : Nat)) rfl ?_
      try go_frame
      refine gm_flo (.pointer (some ⟨gs, i * 2, none⟩)) (fun w1 hw1 => ?_) ?_
      case refine_1 =>
        go_simp
      try go_frame
      refine gm_flo (.pointer (some ⟨gs, i * 2, none⟩)) (fun w1 hw1 => ?_) ?_
      case refine_1 =>
        go_simp
      try go_frame
      refine gm_flo (.int .i64 (x1 : Nat)) (fun w1 hw1 => ?_) ?_
      case refine_1 =>
        have e1 : w1.cell? ⟨gs, i * 2, none⟩ = some (.int .i64 (x1 : Nat)) := (cell_of_row _ _ _ _ _ _ (hw1.at (by simp) HGS.out)).trans HX1.out
        go_simp
      try go_frame
      refine gm_flo (.int .i64 (A : Nat)) (fun w1 hw1 => ?_) ?_
      case refine_1 =>
        go_simp
      try go_frame
      refine gm_callS [.pointer (some ⟨q, 0, none⟩), .int .i64 (A : Nat), .int .i64 512] (by kernel_rfl) rfl rfl (fun w1 hw1 hF1 => (PR.out w1 hF1).mono ?_)
      rintro e w2 ⟨rfl, rfl⟩
      refine ⟨_, rfl, GrS.refl _ _, (fun w => LgS w (F : Nat) (B : Nat) g q p bb cb (.slice (some ⟨gs, 0, none⟩) n cap) s l), (fun w w' hg h => h.keep hg.upd), hF1, ?_⟩
      clear hw1 hF1 w1
      try go_frame
      refine gm_move (.tmp 39) (.inl rfl) (.tuple #[.string P1, .int .i64 P2]) rfl ?_
      try go_frame
      refine gm_extract (vs := #[.string P1, .int .i64 P2]) (.tmp 25) 0 rfl rfl (.string P1) rfl ?_
      try go_frame
      refine gm_extract (vs := #[.string P1, .int .i64 P2]) (.tmp 25) 1 rfl rfl (.int .i64 P2) rfl ?_
      try go_frame
      refine gm_move (.tmp 40) (.inr rfl) (.string P1) rfl ?_
      try go_frame
      refine gm_nil ?_
      intro w9 hw9 hF9
      simp only [List.drop]
      try go_frame
      have H9 := Box.mk hF9; have B9 := Box.mk (B1.out.trans (((Below.refl _ _).drew.trans (Upd.below9 hw9.upd)).mono B1.out.size))
      clear hF9 hw9
      cases hsd : s.dead with
      | true =>
        have hr := HR.out
        rw [hsd, if_pos rfl] at hr
        subst hr
        have hp := HPV.out
        rw [hsd, if_pos rfl] at hp
        cases hp
        clear hsd
        go_wp2_with fail
        go_ret2
        exact ⟨rfl, by rw [← HNn.out]; exact H9.out, B9.out⟩
      | false =>
        have hr := HR.out
        rw [hsd, if_neg (by decide)] at hr
        subst hr
        have hp := HPV.out
        rw [hsd, if_neg (by decide)] at hp
        cases hp
        clear hsd
        obtain ⟨S, hS⟩ : ∃ S, S = s.blk F x1 := ⟨_, rfl⟩
        have HSb := Box.mk hS
        rw [← hS] at HBL ⊢
        have RC := Box.mk (fun p (hp : p < 8) w => record_any ⟨S.toArray⟩ (by show S.toArray.size = 512; rw [List.size_toArray]; exact HBL.out) p hp w)
        have hSd : (⟨S.toArray⟩ : ByteArray).data.toList = S := rfl
        rw [hSd] at RC
        obtain ⟨SB, hSB⟩ : ∃ SB : ByteArray, SB = ⟨S.toArray⟩ := ⟨_, rfl⟩
        rw [← hSB] at RC ⊢
        clear hS hSB hSd PR HPV HBL HGS HX1 c0 c1 c2 HR
        go_wp2_with fail
        go_loopw [9, 10, 11, 12] (fun o pv _ _ wr => ∃ (y : Nat) (rs : List (List UInt8)), 1 ≤ y ∧ y ≤ 8 ∧ pv = .int .i64 (y : Nat) ∧ rs.length ≤ y ∧ wr.ownsRow w.heap.size 9 1 o rs.length (rs.map fun r => .string ⟨r.toArray⟩) ∧ recsL S = rs ++ recsFrom S (8 - y) y ∧ Below w.heap.size w wr) (fun _ pv _ _ _ => 8 - (intOf pv).toNat)
        case atStart =>
          exact ⟨1, [], Nat.le_refl _, by omega, rfl, by simp, World.ownsRow_nil _ _ _ _, by rw [List.nil_append]; exact recs_fuel S 8 8 1 (Nat.le_refl _) (by omega), B9.out⟩
        case round =>
          clear H9 B9
          obtain ⟨y, rs, h1, h8, rfl, hrl, hown, hrs, hb⟩ := hrel
          have HOWN := Box.mk hown; have HRS := Box.mk hrs; have HB := Box.mk hb
          clear hown hrs hb
          by_cases hlt : y < 8
          · have hltI : (y : Int) < 8 := by omega
            have RCy := Box.mk (RC.out y hlt wr)
            have HST : Box (recsFrom S (8 - y) y = if (recL S y).2 = 0 then recsFrom S (8 - (y + 1)) (y + 1) else (recL S y).1 :: recsFrom S (8 - (y + (recL S y).2)) (y + (recL S y).2)) := ⟨by
              rw [show 8 - y = (8 - (y + 1)) + 1 by omega, recsFrom, if_pos hlt]
              split
              · rfl
              · rename_i hr
                rw [recs_fuel S 8 (8 - (y + 1)) (y + (recL S y).2) (by omega) (by have := Nat.pos_of_ne_zero hr; omega)]⟩
            have HLE : Box ((recL S y).2 ≠ 0 → y + (recL S y).2 ≤ 8) := ⟨fun h => (recL_at h).le⟩
            generalize recL S y = r at RCy HST HLE
            obtain ⟨r1, r2⟩ := r
            dsimp only at RCy HST HLE
            have HL := Box.mk hlt
            by_cases hr : r2 = 0
            · have hrI : ¬ 0 < (r2 : Int) := by omega
              have hrM : max 1 (r2 : Int) = 1 := by omega
              have hst := HST.out
              rw [if_pos hr] at hst
              have HST := Box.mk hst
              clear hst hr hlt
              go_wp2_with fail
              refine RCy.out.mono ?_
              rintro e w5 ⟨rfl, rfl⟩
              go_wp2_with fail
              exact ⟨⟨y + 1, rs, by omega, HL.out, by go_num, by omega, HOWN.out, by rw [HRS.out, HST.out], HB.out⟩, by have := HL.out; simp [intOf]; omega⟩
            · have hrI : 0 < (r2 : Int) := by omega
              have hrM : max 1 (r2 : Int) = (r2 : Int) := by omega
              have hst := HST.out
              rw [if_neg hr] at hst
              have hle := HLE.out hr
              have HST := Box.mk hst; have HR0 := Box.mk hr
              have S9 := Box.mk HB.out.size
              obtain ⟨i0, hi0, hz0, hsz0, hby0⟩ := info_parts info_str
              have RR : Box (∀ k u, [Value.string ⟨r1.toArray⟩][k]? = some u → (wr.alloc (.cells #[.string ⟨r1.toArray⟩] 9)).cell? ((⟨wr.heap.size, 0, none⟩ : Addr).add k) = some u) := ⟨fun k u hk => by
                match k, hk with
                | 0, hk => simp at hk; subst hk; show (wr.alloc _).cell? ⟨_, 0 + 0, none⟩ = _; rw [cell_of_row _ _ _ _ _ _ (heap_alloc_new _ _)]; rfl
                | k + 1, hk => simp at hk⟩
              clear hst hr hlt
              go_wp2_with fail
              refine RCy.out.mono ?_
              rintro e w5 ⟨rfl, rfl⟩
              go_wp2_with (at_builtin; refine wpList_append_own _ rfl (.tmp 55) (.tmp 57) 51 rfl w.heap.size 9 i0 (.string ⟨#[]⟩) 1 16 Tryz.underlying51 hi0 hz0 hsz0 hby0 rfl (by decide) _ rs.length _ rfl (own_alloc HOWN.out _) ⟨wr.heap.size, 0, none⟩ 1 1 [.string ⟨r1.toArray⟩] rfl rfl RR.out (fun u hu => by simp at hu; subst hu; rfl) (by unfold maxLen; omega) (by omega) (by have := S9.out; simp; omega) ?_; intro v' w' hown' hgrow hnil)
              have e1 : (y : Int) + (if 1 < (r2 : Int) then (r2 : Int) else 1) = ((y + r2 : Nat) : Int) := by split <;> omega
              rw [e1]
              refine ⟨⟨y + r2, rs ++ [r1], by omega, hle, rfl, by rw [List.length_append, List.length_singleton]; omega, by rw [List.length_append, List.length_singleton, List.map_append]; exact hown', by rw [HRS.out, HST.out, List.append_assoc]; rfl, ?_⟩, by have := HL.out; simp [intOf]; omega⟩
              exact ((HB.out.alloc HB.out.size _).grown hgrow (by have := HB.out.size; simp; omega) (fun k e => (World.ownsRow.lt HOWN.out k e).1))
          · have hltI : ¬ (y : Int) < 8 := by omega
            have HE : Box (recsL S = rs) := ⟨by rw [HRS.out, show 8 - y = 0 by omega]; simp [recsFrom]⟩
            clear hlt
            go_wp2_with fail
            go_ret2
            refine ⟨?_, H0.out.keep (Upd.of_below HB.out), HB.out⟩
            rw [← HSb.out, HE.out]
            exact ⟨_, rfl, HOWN.out⟩
end Go.Proofs.YtjednaendedpdaaGreat
namespace Go.Proofs.YtjednaendedpdaaGreat
set_option maxRecDepth 100000
set_option linter.unusedVariables false
open Go Go.RowKit

theorem own_belowL {w w' : World} {base size n : Nat} {e : TypeId} {v : Value} {xs : List Value} (h : w.ownsRow base e size v n xs) (hb : Below w.heap.size w w') : w'.ownsRow base e size v n xs := own_keep h fun k _ hl => hb.block k hl
theorem find_firstL {num : Int} : ∀ (l : List (Nat × Nat)) (j : Nat) (x : Nat × Nat), l[j]? = some x → (x.2 : Int) = num → (∀ k y, k < j → l[k]? = some y → (y.2 : Int) ≠ num) → l.find? (fun x => (x.2 : Int) == num) = some x
  | [], j, x, h, _, _ => by simp at h
  | y :: l, 0, x, h, he, _ => by
    have h : y = x := by simpa using h
    subst h
    rw [List.find?_cons_of_pos (by rw [beq_iff_eq]; exact he)]
  | y :: l, j + 1, x, h, he, hno => by
    rw [List.find?_cons_of_neg (by rw [beq_iff_eq]; exact hno 0 y (by omega) rfl)]
    exact find_firstL l j x (by simpa using h) he (fun k z hk hz => hno (k + 1) z (by omega) (by simpa using hz))
set_option maxHeartbeats 4000000 in
theorem rlrecords_any (g q p bb cb : Nat) (F B : Nat) (v : Value) (s : FS) (l : LS) (num : Int) (w : World) (h : RLgS w (F : Nat) (B : Nat) g q p bb cb v s l) (hk : l.Ok B) (hd : s.dead = false) (hld : l.dead = false) :
    Calls Tryz.prog 45 #[.pointer (some ⟨g, 0, none⟩), .int .i64 num] w fun e w' => LRec w (s.lrecs F l num) e w' ∧ Below w.heap.size w w' := by
  have hB : B ≤ 256 := by have h1 := h.i.hi; have h2 := h.i.lo; have h3 := h.i.few; omega
  have hfew := hk.few
  obtain ⟨R, hR⟩ : ∃ R, R = s.lrecs F l num := ⟨_, rfl⟩
  rw [← hR]
  unfold FS.lrecs at hR
  rw [hd, hld] at hR
  have HR := Box.mk hR
  obtain ⟨gs, cap, rfl, hgs, hs⟩ := h.lg.seg hk.ne
  have HS := Box.mk hs
  have HBLK := Box.mk hk.blk
  obtain ⟨c0, c1, c2⟩ := h.lg.cells
  rw [hld] at c2
  obtain ⟨cur, hcur, htk⟩ : ∃ cur, w.heap[gs]? = some (.cells cur 87 (0, 0)) ∧ cur.toList.take (l.segs.length * 2) = segC l.segs := by
    rcases h.lg.own.2 with ⟨h, _⟩ | ⟨g', c, cur, hv, _, hqa, _, _, hqb, hqc⟩
    · cases h
    · cases hv; exact ⟨cur, hqa, hqc⟩
  have HGS := Box.mk hcur
  have HTK := Box.mk htk
  obtain ⟨n, hn⟩ : ∃ n, n = l.segs.length := ⟨_, rfl⟩
  have HN := Box.mk hn
  rw [← hn] at c1 hfew h
  have H := Box.mk h
  have HDD := Box.mk hd
  clear h hk hR hgs hs hd hld hcur htk hn
  go_enter Tryz.func45, Tryz.ntmps45
  go_wp2_with fail
  go_loopw [6] (fun i wr => ∃ j : Nat, j ≤ n ∧ i = .int .i64 (j : Nat) ∧ (∀ k x, k < j → l.segs[k]? = some x → (x.2 : Int) ≠ num) ∧ w = wr) (fun i _ => n - (intOf i).toNat)
  case atStart => exact ⟨0, Nat.zero_le _, rfl, (fun k x hk => by omega), rfl⟩
  case round =>
    obtain ⟨j, hj, rfl, hno, rfl⟩ := hrel
    have NO := Box.mk hno
    clear hno
    by_cases hlt : j < n
    · have hjI : (j : Int) < (n : Int) := by omega
      obtain ⟨x, hx⟩ : ∃ x, l.segs[j]? = some x := ⟨_, List.getElem?_eq_getElem (by rw [← HN.out]; exact hlt)⟩
      obtain ⟨s0, s1⟩ := HS.out j x hx
      have HX := Box.mk hx
      obtain ⟨x1, x2⟩ := x
      dsimp only at s0 s1
      by_cases he : (x2 : Int) = num
      · have q1 : ((x2 : Int) != num) = false := by rw [bne_eq_false_iff_eq]; exact he
        have hfd : l.segs.find? (fun x => (x.2 : Int) == num) = some (x1, x2) := find_firstL _ _ _ hx he NO.out
        have hr := HR.out
        rw [hfd] at hr
        dsimp only at hr
        rw [Bool.or_false, if_neg (by decide)] at hr
        have hxB : x1 < B := HBLK.out _ (List.mem_of_getElem? hx)
        obtain ⟨A, hA, HA⟩ : ∃ y : Nat, IntKind.i64.wrap (512 * (x1 : Int)) = (y : Int) ∧ Box (y = 512 * x1) := ⟨512 * x1, by rw [IntKind.wrap_i64]; omega, ⟨rfl⟩⟩
        have hA2 : A ≤ 200000 := by have := HA.out; omega
        have PR := Box.mk (fun w (h : RLgS w (F : Nat) (B : Nat) g q p bb cb (.slice (some ⟨gs, 0, none⟩) n cap) s l) => rpread_any q p bb cb (F : Nat) (B : Nat) s (A : Nat) 512 w h.f h.ok h.pa h.i (by omega) (by omega))
        have hpv : preadV s (F : Nat) (B : Nat) (A : Nat) 512 = (⟨(s.blk F x1).toArray⟩, 0) := by
          have hin : inB (B : Int) (A : Nat) 512 = true := by rw [inB_iff, HA.out]; omega
          unfold preadV FS.blk
          rw [if_pos hin, HA.out, HDD.out, show (512 * (F : Int) + ((512 * x1 : Nat) : Int)).toNat = 512 * (F + x1) by omega]; rfl
        rw [hpv] at PR
        dsimp only at PR
        have HBL : Box ((s.blk F x1).length = 512) := ⟨by
          have h1 := H.out.ok.len; have h2 := H.out.i.hi
          unfold FS.blk; rw [List.length_take, List.length_drop, h1]; omega⟩
        have HX1 : Box (cur[j * 2]? = some (.int .i64 (x1 : Nat))) := ⟨by
          have h1 := (segC_at l.segs j (x1, x2) hx).1
          rw [← HTK.out, List.getElem?_take, Nat.mul_comm] at h1
          split at h1
          · simpa using h1
          · cases h1⟩
        obtain ⟨S, hS⟩ : ∃ S, S = s.blk F x1 := ⟨_, rfl⟩
        rw [← hS] at PR HBL hr
        obtain ⟨SB, hSB⟩ : ∃ SB : ByteArray, SB = ⟨S.toArray⟩ := ⟨_, rfl⟩
        have RC := Box.mk (fun p (hp : p < 8) w => rstands_any ⟨S.toArray⟩ (by show S.toArray.size = 512; rw [List.size_toArray]; exact HBL.out) p hp w)
        have hSd : (⟨S.toArray⟩ : ByteArray).data.toList = S := rfl
        rw [hSd] at RC
        rw [← hSB] at PR RC
        have HRR := Box.mk hr
        clear hr hfd hx he hpv hS hSB hSd HR HBLK NO hxB
        go_upto_region 7 with (fail)
        refine wp_region_mixS [] (fun w => RLgS w (F : Nat) (B : Nat) g q p bb cb (.slice (some ⟨gs, 0, none⟩) n cap) s l) (fun w w' hg h => h.keep hg.upd) (H.out.keep (Upd.refl [] w).drew) ((by simp)) 18 [.flo, .flo, .flo, .flo, .flo, .flo, .flo, .flo, .flo, .flo, .flo, .flo, .flo, .cha, .flo, .flo, .flo, .flo] (by kernel_rfl) (by kernel_rfl) rfl ?_
        simp only [List.take, List.zip, List.zipWith]
        try go_frame
        refine gm_move (.tmp 0) (.inl rfl) (.pointer (some ⟨g, 0, none⟩)) rfl ?_
        try go_frame
        refine gm_flo (.pointer (some ⟨g, 0, none⟩)) (fun w1 hw1 => ?_) ?_
        case refine_1 =>
          go_simp
        try go_frame
        refine gm_flo (.pointer (some ⟨g, 0, none⟩)) (fun w1 hw1 => ?_) ?_
        case refine_1 =>
          go_simp
        try go_frame
        refine gm_flo (.pointer (some ⟨q, 0, none⟩)) (fun w1 hw1 => ?_) ?_
        case refine_1 =>
          have e1 : w1.cell? ⟨g, 0, none⟩ = some (.pointer (some ⟨q, 0, none⟩)) := (cell_of_row _ _ _ _ _ _ (hw1.at ((by simp)) H.out.lg.row)).trans rfl
          go_simp
        try go_frame
        refine gm_move (.tmp 0) (.inl rfl) (.pointer (some ⟨g, 0, none⟩)) rfl ?_
        try go_frame
        refine gm_flo (.pointer (some ⟨g, 0, none⟩)) (fun w1 hw1 => ?_) ?_
        case refine_1 =>
          go_simp
        try go_frame
        refine gm_flo (.pointer (some ⟨g, 1, none⟩)) (fun w1 hw1 => ?_) ?_
        case refine_1 =>
          go_simp
        try go_frame
        refine gm_flo (.slice (some ⟨gs, 0, none⟩) n cap) (fun w1 hw1 => ?_) ?_
        case refine_1 =>
          have e1 : w1.cell? ⟨g, 1, none⟩ = some (.slice (some ⟨gs, 0, none⟩) n cap) := (cell_of_row _ _ _ _ _ _ (hw1.at ((by simp)) H.out.lg.row)).trans rfl
          go_simp
        try go_frame
        refine gm_move (.tmp 6) (.inl rfl) (.int .i64 (j : Nat)) rfl ?_
        try go_frame
        refine gm_flo (.pointer (some ⟨gs, j * 2, none⟩)) (fun w1 hw1 => ?_) ?_
        case refine_1 =>
          go_simp
        try go_frame
        refine gm_flo (.pointer (some ⟨gs, j * 2, none⟩)) (fun w1 hw1 => ?_) ?_
        case refine_1 =>
          go_simp
        try go_frame
        refine gm_flo (.int .i64 (x1 : Nat)) (fun w1 hw1 => ?_) ?_
        case refine_1 =>
          have e1 : w1.cell? ⟨gs, j * 2, none⟩ = some (.int .i64 (x1 : Nat)) := (cell_of_row _ _ _ _ _ _ (hw1.at (by simp) HGS.out)).trans HX1.out
          go_simp
        try go_frame
        refine gm_flo (.int .i64 (A : Nat)) (fun w1 hw1 => ?_) ?_
        case refine_1 =>
          go_simp
        try go_frame
        refine gm_callS [.pointer (some ⟨q, 0, none⟩), .int .i64 (A : Nat), .int .i64 512] (by kernel_rfl) rfl rfl (fun w1 hw1 hF1 => (PR.out w1 hF1).mono ?_)
        rintro e w2 ⟨rfl, hu⟩
        refine ⟨_, rfl, GrS.of_upd hu (by simp), (fun w => RLgS w (F : Nat) (B : Nat) g q p bb cb (.slice (some ⟨gs, 0, none⟩) n cap) s l), (fun w w' hg h => h.keep hg.upd), hF1.keep hu, ?_⟩
        clear hw1 hF1 hu w1 w2
        try go_frame
        refine gm_move (.tmp 50) (.inl rfl) (.tuple #[.string SB, .int .i64 0]) rfl ?_
        try go_frame
        refine gm_extract (vs := #[.string SB, .int .i64 0]) (.tmp 36) 0 rfl rfl (.string SB) rfl ?_
        try go_frame
        refine gm_extract (vs := #[.string SB, .int .i64 0]) (.tmp 36) 1 rfl rfl (.int .i64 0) rfl ?_
        try go_frame
        refine gm_move (.tmp 51) (.inr rfl) (.string SB) rfl ?_
        try go_frame
        refine gm_nil ?_
        intro w9 hw9 hF9
        simp only [List.drop]
        try go_frame
        have B9 := Box.mk (show Below w.heap.size w w9 from (Below.refl _ _).drew.trans (Upd.below9 hw9.upd))
        clear hF9 hw9 PR HBL HGS HX1 c0 c1 c2 s0 s1 H HTK
        have O0 := Box.mk (show (w9.alloc (.cells #[] 9)).ownsRow w.heap.size 9 1 (.slice (some ⟨w9.heap.size, 0, none⟩) 0 0) 0 [] from World.ownsRow_lit (base := w.heap.size) (size := 1) (e := 9) w9 #[] 0 B9.out.size (by unfold maxLen; omega) rfl)
        have B10 := Box.mk (B9.out.alloc B9.out.size (.cells #[] 9))
        clear B9
        go_wp2_with fail
        go_loopw [9, 10] (fun o pv wr => ∃ (y : Nat) (rs : List (List UInt8)), 1 ≤ y ∧ y ≤ 8 ∧ pv = .int .i64 (y : Nat) ∧ rs.length ≤ y ∧ wr.ownsRow w.heap.size 9 1 o rs.length (rs.map fun r => .string ⟨r.toArray⟩) ∧ recsL S = rs ++ recsFrom S (8 - y) y ∧ Below w.heap.size w wr) (fun _ pv _ => 8 - (intOf pv).toNat)
        case atStart =>
          exact ⟨1, [], Nat.le_refl _, by omega, rfl, by simp, O0.out, by rw [List.nil_append]; exact recs_fuel S 8 8 1 (Nat.le_refl _) (by omega), B10.out⟩
        case round =>
          clear O0 B10
          obtain ⟨y, rs, h1, h8, rfl, hrl, hown, hrs, hb⟩ := hrel
          have HOWN := Box.mk hown; have HRS := Box.mk hrs; have HB := Box.mk hb
          clear hown hrs hb
          by_cases hlt : y < 8
          · have hltI : (y : Int) < 8 := by omega
            have RCy := Box.mk (RC.out y hlt wr)
            have HST : Box (recsFrom S (8 - y) y = if (recL S y).2 = 0 then recsFrom S (8 - (y + 1)) (y + 1) else (recL S y).1 :: recsFrom S (8 - (y + (recL S y).2)) (y + (recL S y).2)) := ⟨by
              rw [show 8 - y = (8 - (y + 1)) + 1 by omega, recsFrom, if_pos hlt]
              split
              · rfl
              · rename_i hr
                rw [recs_fuel S 8 (8 - (y + 1)) (y + (recL S y).2) (by omega) (by have := Nat.pos_of_ne_zero hr; omega)]⟩
            have HLE : Box ((recL S y).2 ≠ 0 → y + (recL S y).2 ≤ 8) := ⟨fun h => (recL_at h).le⟩
            generalize recL S y = r at RCy HST HLE
            obtain ⟨r1, r2⟩ := r
            dsimp only at RCy HST HLE
            have HL := Box.mk hlt
            by_cases hr : r2 = 0
            · have hrI : ((r2 : Int) == 0) = true := by rw [beq_iff_eq]; omega
              have hst := HST.out
              rw [if_pos hr] at hst
              have HST := Box.mk hst
              clear hst hr hlt
              go_wp2_with fail
              refine RCy.out.mono ?_
              rintro e w5 ⟨rfl, hb⟩
              have HB5 := Box.mk (HB.out.trans (hb.mono HB.out.size)); have O5 := Box.mk (own_belowL HOWN.out hb)
              clear hb HB HOWN
              go_wp2_with fail
              exact ⟨⟨y + 1, rs, by omega, HL.out, by go_num, by omega, O5.out, by rw [HRS.out, HST.out], HB5.out⟩, by have := HL.out; simp [intOf]; omega⟩
            · have hrI : ((r2 : Int) == 0) = false := by rw [beq_eq_false_iff_ne]; omega
              have hst := HST.out
              rw [if_neg hr] at hst
              have hle := HLE.out hr
              have HST := Box.mk hst; have HR0 := Box.mk hr
              obtain ⟨i0, hi0, hz0, hsz0, hby0⟩ := info_parts info_str
              clear hst hr hlt
              go_wp2_with fail
              refine RCy.out.mono ?_
              rintro e w5 ⟨rfl, hb⟩
              have HB5 := Box.mk (HB.out.trans (hb.mono HB.out.size)); have O5 := Box.mk (own_belowL HOWN.out hb)
              have S5 := Box.mk HB5.out.size
              clear hb HB HOWN
              go_wp2_with (at_builtin; refine wpList_append_own _ rfl (.tmp 69) (.tmp 71) 51 rfl w.heap.size 9 i0 (.string ⟨#[]⟩) 1 16 Tryz.underlying51 hi0 hz0 hsz0 hby0 rfl (by decide) _ rs.length _ rfl (own_allocL O5.out _) ⟨w5.heap.size, 0, none⟩ 1 1 [.string ⟨r1.toArray⟩] rfl rfl (one_cellL w5 _ _) (fun u hu => by simp at hu; subst hu; rfl) (by unfold maxLen; omega) (by omega) (by have := S5.out; simp; omega) ?_; intro v' w' hown' hgrow hnil)
              have HBN := Box.mk ((HB5.out.alloc HB5.out.size (.cells #[.string ⟨r1.toArray⟩] 9)).grown hgrow (by have := HB5.out.size; simp; omega) (fun k hk => (World.ownsRow.lt (own_allocL O5.out (.cells #[.string ⟨r1.toArray⟩] 9)) k hk).1))
              have HON := Box.mk hown'
              have hyr : IntKind.i64.wrap ((y : Int) + (r2 : Int)) = ((y + r2 : Nat) : Int) := by rw [IntKind.wrap_i64]; omega
              clear hown' hgrow hnil O5 HB5
              go_wp2_with fail
              exact ⟨⟨y + r2, rs ++ [r1], by omega, hle, rfl, by rw [List.length_append, List.length_singleton]; have := HR0.out; omega, by rw [List.length_append, List.length_singleton, List.map_append]; exact HON.out, by rw [HRS.out, HST.out, List.append_assoc]; rfl, HBN.out⟩, by have := HL.out; have := HR0.out; simp [intOf]; omega⟩
          · have hltI : ¬ (y : Int) < 8 := by omega
            have HE : Box (recsL S = rs) := ⟨by rw [HRS.out, show 8 - y = 0 by omega]; simp [recsFrom]⟩
            clear hlt
            go_wp2_with fail
            go_ret2
            refine ⟨?_, HB.out⟩
            rw [HRR.out, HE.out]
            exact ⟨_, rfl, HOWN.out⟩
      · have q1 : ((x2 : Int) != num) = true := by rw [bne_iff_ne]; exact he
        have HNE := Box.mk he
        clear he hx
        go_wp2_with fail
        exact ⟨⟨j + 1, hlt, by go_num, fun k y hk hy => by
          rcases Nat.lt_succ_iff_lt_or_eq.1 hk with h | rfl
          · exact NO.out k y h hy
          · rw [HX.out] at hy; cases hy; exact HNE.out, trivial⟩, by simp [intOf]; omega⟩
    · have hjI : ¬ (j : Int) < (n : Int) := by omega
      obtain rfl : j = n := by omega
      have HRR : Box (R = .error 140) := ⟨by
        have hf : l.segs.find? (fun x => (x.2 : Int) == num) = none := by
          rw [List.find?_eq_none]; intro x hx; rw [beq_iff_eq]
          obtain ⟨k, hk, hk2⟩ := List.mem_iff_getElem.1 hx
          exact NO.out k x (by rw [HN.out]; exact hk) (by rw [List.getElem?_eq_getElem hk, hk2])
        rw [HR.out, hf]⟩
      clear hlt
      go_wp2_with fail
      go_ret2
      rw [HRR.out]
      exact ⟨rfl, Below.refl _ _⟩
end Go.Proofs.YtjednaendedpdaaGreat
