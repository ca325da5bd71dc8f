/- Boot: the document's Open. -/
import Derived.Test.YtgcbmjflodgnbaaGreatDoorM14
import Derived.Test.YtgcbmjflodgnbaaGreatDoorM12
namespace Go.Proofs.YtgcbmjflodgnbaaGreatDoor
set_option maxRecDepth 100000
set_option linter.unusedVariables false
open Go Go.RowKit

/-- What Open leaves. -/
def RBOpn (F : Nat) (q p bb cb : Nat) (w : World) (s : FS) (r : Except Int BS) (e : Ending) (w' : World) : Prop :=
  Below w.heap.size w w' ∧ match r with
  | .error x => e = .returned (.tuple #[.pointer none, .int .i64 x])
  | .ok t => ∃ g, e = .returned (.tuple #[.pointer (some ⟨g, 0, none⟩), .int .i64 0]) ∧ RBtS w' F g q p bb cb s t ∧ w.heap.size ≤ g
set_option maxHeartbeats 4000000 in
theorem rbopen_any (q p bb cb F : Nat) (s : FS) (w : World) (hf : Fl 73 w p bb cb s) (hok : s.Ok) (hp : RPa w q p (F : Nat) 2) (hi : In s.n.length (F : Nat) 2) (hq : q ∉ [p, bb, cb]) :
    Calls Tryz.prog 21 #[.pointer (some ⟨q, 0, none⟩)] w (RBOpn F q p bb cb w s (s.bopen F)) := by
  have SZ := Box.mk (fun w h => rsize_any q p (F : Nat) 2 s.n.length w h hi)
  have RD := Box.mk (rpread_any q p bb cb (F : Nat) 2 s 0 1024 w hf hok hp hi (by omega) (by omega))
  obtain ⟨R, hR⟩ : ∃ R, R = s.bopen F := ⟨_, rfl⟩
  rw [← hR]
  unfold FS.bopen at hR
  have HF := Box.mk hf; have HP := Box.mk hp; have HOK := Box.mk hok; have HI := Box.mk hi; have HQ := Box.mk hq
  cases hd : s.dead with
  | true => as_aux_lemma =>
    rw [if_pos hd] at hR
    have hrd : preadV s F 2 0 1024 = (⟨#[]⟩, 2) := by unfold preadV; rw [if_pos (by rw [inB_iff]; omega), hd, if_pos rfl]
    rw [hrd] at RD
    subst hR
    clear hd hrd hf hok hp hi hq
    go_enter Tryz.func21, Tryz.ntmps21
    go_wp2_with fail
    refine (SZ.out _ HP.out).mono ?_
    rintro e w1 ⟨rfl, rfl⟩
    go_wp2_with fail
    refine RD.out.mono ?_
    rintro e w1 ⟨rfl, hu⟩
    have U1 := Box.mk hu
    clear hu
    go_wp2_with fail
    go_ret2
    exact ⟨Upd.belowN U1.out, rfl⟩
  | false => as_aux_lemma =>
    rw [if_neg (by rw [hd]; decide)] at hR
    rw [bread_all hd hok hi] at RD
    obtain ⟨al, hal⟩ : ∃ al : ByteArray, al = ⟨((s.b.drop (512 * F)).take 1024).toArray⟩ := ⟨_, rfl⟩
    rw [← hal] at RD
    obtain ⟨hsz, hcut⟩ := bread_cut hok hi al hal
    have CUT := Box.mk hcut; have HR := Box.mk hR
    clear hal hcut hR hd hf hok hp hi hq
    go_enter Tryz.func21, Tryz.ntmps21
    go_wp2_with fail
    refine (SZ.out _ HP.out).mono ?_
    rintro e w1 ⟨rfl, rfl⟩
    go_wp2_with fail
    refine RD.out.mono ?_
    rintro e w1 ⟨rfl, hu⟩
    obtain ⟨g, hg⟩ : ∃ g, g = w1.heap.size := ⟨_, rfl⟩
    have LT0 := HF.out.lt; have LT2 := HP.out.lt
    obtain ⟨W2, hW2⟩ : ∃ W2, W2 = w1.alloc (.cells #[.pointer (some ⟨q, 0, none⟩), .int .i64 0, .bool false, .int .i64 0, .int .i64 0, .int .i64 0, .int .i64 0, .int .i64 0, .bool false] 59) := ⟨_, rfl⟩
    have BW2 : Box (Below w.heap.size w W2 ∧ RBt W2 g q (s.bscan F 0)) := ⟨by rw [hW2]; exact ⟨(Upd.belowN hu).alloc hu.size _, ⟨by rw [hg]; exact heap_alloc_new _ _⟩⟩⟩
    have AP := Box.mk (show Bap g q p bb cb ∧ w.heap.size ≤ g from ⟨⟨by have := hu.size; have hq := HQ.out; simp only [List.mem_cons, List.not_mem_nil, or_false, not_or] at hq ⊢; omega, by have := hu.size; have hq := HQ.out; simp only [List.mem_cons, List.not_mem_nil, or_false, not_or] at hq ⊢; omega⟩, by have := hu.size; omega⟩)
    clear hu LT0 LT2
    go_wp2_with fail
    rw [← hW2, ← hg]
    clear hW2 hg SZ RD
    go_loopw [7] (fun i wr => ∃ j : Nat, j ≤ 16 ∧ i = .int .i64 (j : Int) ∧ Below w.heap.size w wr ∧ RBt wr g q (s.bscan F j)) (fun i _ => 16 - (intOf i).toNat)
    case atStart => exact ⟨0, by omega, rfl, BW2.out⟩
    case round =>
      clear BW2
      obtain ⟨j, hj, rfl, hb, ht⟩ := hrel
      have HB := Box.mk hb; have HT := Box.mk ht
      clear hb ht
      by_cases hlt : j < 16
      · have hltI : (j : Int) < 16 := by omega
        obtain ⟨A, hA⟩ : ∃ A, A = 64 * j := ⟨_, rfl⟩
        obtain ⟨Z, hZ⟩ : ∃ Z, Z = 64 * j + 64 := ⟨_, rfl⟩
        have hAZ : (A : Int) ≤ (Z : Int) := by omega
        have hZI : (Z : Int) ≤ 1024 := by omega
        have hw0 : IntKind.i64.wrap (64 * (j : Int)) = (A : Int) := by rw [IntKind.wrap_i64]; omega
        have hw2 : IntKind.i64.wrap ((A : Int) + 64) = (Z : Int) := by rw [IntKind.wrap_i64]; omega
        obtain ⟨hsz1, hpg⟩ := CUT.out j hlt
        rw [← hZ, ← hA] at hsz1 hpg
        have PR := Box.mk (fun (w1 : World) => rcounts_any (al.extract A Z) hsz1 w1)
        rw [hpg] at PR
        have HS := Box.mk (show s.bscan F (j + 1) = if cntB (s.pg F 0 j) = true ∧ (s.bscan F j).seq < numB (s.pg F 0 j) then ⟨readB (s.pg F 0 j), numB (s.pg F 0 j), j / 8, false⟩ else s.bscan F j from rfl)
        have TDD := Box.mk (bscan_dead s F j)
        have LTJ := Box.mk hlt
        clear hsz1 hpg hlt hA hZ
        generalize s.pg F 0 j = P at PR HS
        obtain ⟨T1, hT1⟩ : ∃ T1, T1 = s.bscan F (j + 1) := ⟨_, rfl⟩
        have HT1 := Box.mk hT1
        rw [← hT1] at HS
        clear hT1
        generalize s.bscan F j = T0 at HT HS TDD
        obtain ⟨N, hN⟩ : ∃ N, N = numB P := ⟨_, rfl⟩
        rw [← hN] at PR HS
        obtain ⟨r, hr⟩ : ∃ r, r = readB P := ⟨_, rfl⟩
        rw [← hr] at PR HS
        clear hN hr
        go_upto_region 10 with (fail)
        cases hc : cntB P with
        | false => as_aux_lemma =>
          rw [hc] at PR
          have HX : Box (T1 = T0) := ⟨by rw [HS.out, if_neg]; rw [hc]; simp⟩
          clear hc HS
          refine wp_region_seq 15 [.flo, .flo, .flo, .flo, .flo, .flo, .flo, .cha, .flo, .flo, .flo, .flo, .new (.cells (brC BR.zero) 24 (0, 0)), .cha, .flo] (by rfl) rfl (by decide) ?_
          simp only [List.take, List.zip, List.zipWith]
          try go_frame
          refine gm_move (.tmp 4) (.inl rfl) (.string al) rfl ?_
          try go_frame
          refine gm_move (.tmp 7) (.inl rfl) (.int .i64 (j : Int)) rfl ?_
          try go_frame
          refine gm_flo (.int .i64 (A : Int)) (fun w1 hw1 => ?_) ?_
          case refine_1 =>
            go_simp
          try go_frame
          refine gm_move (.tmp 7) (.inl rfl) (.int .i64 (j : Int)) rfl ?_
          try go_frame
          refine gm_flo (.int .i64 (A : Int)) (fun w1 hw1 => ?_) ?_
          case refine_1 =>
            go_simp
          try go_frame
          refine gm_flo (.int .i64 (Z : Int)) (fun w1 hw1 => ?_) ?_
          case refine_1 =>
            go_simp
          try go_frame
          refine gm_flo (.string (al.extract A Z)) (fun w1 hw1 => ?_) ?_
          case refine_1 =>
            go_simp
          try go_frame
          refine gm_call [.string (al.extract A Z)] (by kernel_rfl) rfl rfl Stb.tt (fun w1 hw1 hF1 => (PR.out w1).mono ?_)
          rintro e w2 ⟨rfl, hb⟩
          refine ⟨_, rfl, hb, ?_⟩
          clear hw1 hF1 hb w1 w2
          try go_frame
          refine gm_move (.tmp 37) (.inl rfl) (.tuple #[brV r, .int .i64 (N : Int), .bool false]) rfl ?_
          try go_frame
          refine gm_extract (vs := #[brV r, .int .i64 (N : Int), .bool false]) (.tmp 29) 0 rfl rfl (brV r) rfl ?_
          try go_frame
          refine gm_extract (vs := #[brV r, .int .i64 (N : Int), .bool false]) (.tmp 29) 1 rfl rfl (.int .i64 (N : Int)) rfl ?_
          try go_frame
          refine gm_extract (vs := #[brV r, .int .i64 (N : Int), .bool false]) (.tmp 29) 2 rfl rfl (.bool false) rfl ?_
          try go_frame
          refine gm_alloc rfl (.cells (brC BR.zero) 24) (fun _ => by kernel_rfl) (fun b hb hn => ?_)
          try go_frame
          refine gm_storeN (.tmp 8) (.tmp 38) rfl b (brC BR.zero) (brC r) 24 rfl rfl (by simp) rfl (by kernel_rfl) rfl (brC_one _) (fun _ => True) (fun _ h => ⟨trivial, h.2⟩) Stb.tt (fun _ _ => trivial) ?_
          try go_frame
          refine gm_move (.tmp 39) (.inr rfl) (.int .i64 (N : Int)) rfl ?_
          try go_frame
          refine gm_nil ?_
          intro w9 hw9 hF9
          simp only [List.drop]
          try go_frame
          have B9 := Box.mk hw9.upd
          have HR9 := Box.mk hF9.2
          clear hw9 hF9 hb hn
          have HT9 := Box.mk (HT.out.upd B9.out (by simp))
          go_wp2_with fail
          exact ⟨⟨j + 1, LTJ.out, by go_num, HB.out.trans ((Upd.belowN B9.out).mono HB.out.size), by rw [← HT1.out, HX.out]; exact HT9.out⟩, by have := LTJ.out; simp [intOf]; omega⟩
        | true => as_aux_lemma =>
          rw [hc] at PR
          refine wp_region_seq 15 [.flo, .flo, .flo, .flo, .flo, .flo, .flo, .cha, .flo, .flo, .flo, .flo, .new (.cells (brC BR.zero) 24 (0, 0)), .cha, .flo] (by rfl) rfl (by decide) ?_
          simp only [List.take, List.zip, List.zipWith]
          try go_frame
          refine gm_move (.tmp 4) (.inl rfl) (.string al) rfl ?_
          try go_frame
          refine gm_move (.tmp 7) (.inl rfl) (.int .i64 (j : Int)) rfl ?_
          try go_frame
          refine gm_flo (.int .i64 (A : Int)) (fun w1 hw1 => ?_) ?_
          case refine_1 =>
            go_simp
          try go_frame
          refine gm_move (.tmp 7) (.inl rfl) (.int .i64 (j : Int)) rfl ?_
          try go_frame
          refine gm_flo (.int .i64 (A : Int)) (fun w1 hw1 => ?_) ?_
          case refine_1 =>
            go_simp
          try go_frame
          refine gm_flo (.int .i64 (Z : Int)) (fun w1 hw1 => ?_) ?_
          case refine_1 =>
            go_simp
          try go_frame
          refine gm_flo (.string (al.extract A Z)) (fun w1 hw1 => ?_) ?_
          case refine_1 =>
            go_simp
          try go_frame
          refine gm_call [.string (al.extract A Z)] (by kernel_rfl) rfl rfl Stb.tt (fun w1 hw1 hF1 => (PR.out w1).mono ?_)
          rintro e w2 ⟨rfl, hb⟩
          refine ⟨_, rfl, hb, ?_⟩
          clear hw1 hF1 hb w1 w2
          try go_frame
          refine gm_move (.tmp 37) (.inl rfl) (.tuple #[brV r, .int .i64 (N : Int), .bool true]) rfl ?_
          try go_frame
          refine gm_extract (vs := #[brV r, .int .i64 (N : Int), .bool true]) (.tmp 29) 0 rfl rfl (brV r) rfl ?_
          try go_frame
          refine gm_extract (vs := #[brV r, .int .i64 (N : Int), .bool true]) (.tmp 29) 1 rfl rfl (.int .i64 (N : Int)) rfl ?_
          try go_frame
          refine gm_extract (vs := #[brV r, .int .i64 (N : Int), .bool true]) (.tmp 29) 2 rfl rfl (.bool true) rfl ?_
          try go_frame
          refine gm_alloc rfl (.cells (brC BR.zero) 24) (fun _ => by kernel_rfl) (fun b hb hn => ?_)
          try go_frame
          refine gm_storeN (.tmp 8) (.tmp 38) rfl b (brC BR.zero) (brC r) 24 rfl rfl (by simp) rfl (by kernel_rfl) rfl (brC_one _) (fun _ => True) (fun _ h => ⟨trivial, h.2⟩) Stb.tt (fun _ _ => trivial) ?_
          try go_frame
          refine gm_move (.tmp 39) (.inr rfl) (.int .i64 (N : Int)) rfl ?_
          try go_frame
          refine gm_nil ?_
          intro w9 hw9 hF9
          simp only [List.drop]
          try go_frame
          have B9 := Box.mk hw9.upd
          have HR9 := Box.mk hF9.2
          clear hw9 hF9 hb hn
          have HT9 := Box.mk (HT.out.upd B9.out (by simp))
          have c6 := HT9.out.cells.2.2.2.2.2.2.1
          by_cases hle : T0.seq < N
          · have hleI : decide (T0.seq < N) = true := by rw [decide_eq_true_iff]; exact hle
            have HX : Box (T1 = ⟨r, N, j / 8, T0.dead⟩) := ⟨by rw [HS.out, if_pos ⟨hc, hle⟩, TDD.out]⟩
            clear hle HS hc
            obtain ⟨d, hd⟩ : ∃ d, d = j / 8 := ⟨_, rfl⟩
            have hdiv : (j : Int) / 8 = (d : Int) := by omega
            have hdw : IntKind.i64.wrap (d : Int) = (d : Int) := by rw [IntKind.wrap_i64]; omega
            rw [← hd] at HX
            have BB := Box.mk (HB.out.trans ((Upd.belowN B9.out).mono HB.out.size))
            have HR9b := Box.mk HR9.out
            have HDV := Box.mk (And.intro hdiv hdw)
            clear hd hw0 hw2 hAZ hZI PR HB HT B9 HR9 hdiv hdw
            go_upto_region 12 with (fail)
            have RB := Box.mk (show w9.heap[b]? = _ from HR9b.out)
            refine wp_region_seq 4 [.flo, .flo, .flo, .flo] (by rfl) rfl (by decide) ?_
            simp only [List.take, List.zip, List.zipWith]
            try go_frame
            refine gm_move (.tmp 6) (.inl rfl) (.pointer (some ⟨g, 0, none⟩)) rfl ?_
            try go_frame
            refine gm_loadS (.tmp 8) rfl b (brC r) 24 (0, 0) _ RB.out (by simp) rfl Tryz.underlying24 rfl (by kernel_rfl) ?_
            try go_frame
            refine gm_flo (.pointer (some ⟨g, 0, none⟩)) (fun w1 hw1 => ?_) ?_
            case refine_1 =>
              go_simp
            try go_frame
            refine gm_flo (.pointer (some ⟨g, 1, none⟩)) (fun w1 hw1 => ?_) ?_
            case refine_1 =>
              go_simp
            try go_frame
            refine gm_nil ?_
            intro w8 hw9 hF9
            simp only [List.drop]
            try go_frame
            have HTT := Box.mk (HT9.out.upd hw9.upd (by simp))
            have hg := AP.out.2
            have H9w := Box.mk (hw9.upd)
            have HTH : w8.there g 1 (brC r).size := fun i hi => ⟨by
              rw [cell_of_row _ _ _ _ _ _ HTT.out.row]
              simp only [brC, List.size_toArray, List.length_cons, List.length_nil] at hi
              match i, hi with
              | 0, _ => rfl
              | 1, _ => rfl
              | 2, _ => rfl
              | 3, _ => rfl
              | 4, _ => rfl, HTT.out.free _⟩
            have hst0 := run_storeCells_cells (P := Tryz.prog) g 1 (brC r).toList 0 w8 (fun i hi => by simpa using (HTH i (by simpa using hi)).1) (fun i hi => by simpa using (HTH i (by simpa using hi)).2) (fun v hv => (Array.all_eq_true_iff_forall_mem.1 (brC_one r)) v (by simpa using hv))
            obtain ⟨W5, hW5⟩ : ∃ W5, W5 = w8.setCells g 1 (brC r).toList := ⟨_, rfl⟩
            have hst : (storeCells ⟨g, 1, none⟩ (brC r).toList).run Tryz.prog w8 = .ok () W5 := by rw [hW5]; exact hst0
            have f6 : W5.frozen? ⟨g, 6, none⟩ = false := by rw [hW5, World.frozen?_setCells]; exact HTT.out.free _
            have f7 : W5.frozen? ⟨g, 7, none⟩ = false := by rw [hW5, World.frozen?_setCells]; exact HTT.out.free _
            have c6 : W5.cell? ⟨g, 6, none⟩ = some (.int .i64 (T0.seq : Int)) := by rw [hW5, World.cell?_setCells_out _ _ _ _ _ (fun _ _ => .inr (by simp [brC]))]; exact HTT.out.cells.2.2.2.2.2.2.1
            have c7 : W5.cell? ⟨g, 7, none⟩ = some (.int .i64 (T0.block : Int)) := by rw [hW5, World.cell?_setCells_out _ _ _ _ _ (fun _ _ => .inr (by simp [brC]))]; exact HTT.out.cells.2.2.2.2.2.2.2.1
            have HW5 := Box.mk hW5
            have hdiv := HDV.out.1; have hdw := HDV.out.2
            clear hW5 hst0 HTH
            clear hw9 hF9 HT9 RB HR9b hg HR CUT HF HP HOK HI HQ TDD
            go_wp2_with fail
            have hg := AP.out.2
            have FIN : Box (Below w.heap.size w ((W5.setCell ⟨g, 6, none⟩ (.int .i64 (N : Int))).setCell ⟨g, 7, none⟩ (.int .i64 (d : Int))) ∧ RBt ((W5.setCell ⟨g, 6, none⟩ (.int .i64 (N : Int))).setCell ⟨g, 7, none⟩ (.int .i64 (d : Int))) g q ⟨r, N, d, T0.dead⟩) := ⟨by
              rw [HW5.out]
              have h0 := BB.out.trans ((Upd.belowN H9w.out).mono BB.out.size)
              exact ⟨((((((h0.setCell hg _).setCell hg _).setCell hg _).setCell hg _).setCell hg _).setCell hg _).setCell hg _, HTT.out.setRec r N d⟩⟩
            exact ⟨⟨j + 1, LTJ.out, by rw [Int.natCast_add, Int.natCast_one], FIN.out.1, by rw [← HT1.out, HX.out]; exact FIN.out.2⟩, by have := LTJ.out; simp [intOf]; omega⟩
          · have hleI : decide (T0.seq < N) = false := by rw [decide_eq_false_iff_not]; exact hle
            have HX : Box (T1 = T0) := ⟨by rw [HS.out, if_neg]; intro h; exact hle h.2⟩
            clear hle HS hc
            go_wp2_with fail
            exact ⟨⟨j + 1, LTJ.out, by go_num, HB.out.trans ((Upd.belowN B9.out).mono HB.out.size), by rw [← HT1.out, HX.out]; exact HT9.out⟩, by have := LTJ.out; simp [intOf]; omega⟩
      · have hltI : ¬ (j : Int) < 16 := by omega
        obtain rfl : j = 16 := by omega
        have HTF := Box.mk (show RBtS wr F g q p bb cb s (s.bscan F 16) from ⟨AP.out.1, HF.out.upd (Upd.of_below (S := []) HB.out) (by simp) (by simp) (by simp), HOK.out, HP.out.upd (Upd.of_below (S := []) HB.out) (by simp), HI.out, HT.out⟩)
        have c6 := HT.out.cells.2.2.2.2.2.2.1
        generalize s.bscan F 16 = T0 at HTF HR c6
        clear HT hlt
        by_cases h0 : T0.seq = 0
        · have h0I : (((T0.seq : Nat) : Int) == 0) = true := by rw [beq_iff_eq]; omega
          have hR := HR.out
          rw [if_pos h0] at hR
          subst hR
          clear h0 HR
          go_wp2_with fail
          go_ret2
          exact ⟨HB.out, rfl⟩
        · have h0I : (((T0.seq : Nat) : Int) == 0) = false := by rw [beq_eq_false_iff_ne]; omega
          have hR := HR.out
          rw [if_neg h0] at hR
          by_cases h1 : 140737488355328 < T0.seq
          · have h1I : decide ((140737488355328 : Int) < (T0.seq : Int)) = true := by rw [decide_eq_true_iff]; omega
            rw [if_pos h1] at hR
            subst hR
            clear h0 h1 HR
            go_wp2_with fail
            go_ret2
            exact ⟨HB.out, rfl⟩
          · have h1I : decide ((140737488355328 : Int) < (T0.seq : Int)) = false := by rw [decide_eq_false_iff_not]; omega
            rw [if_neg h1] at hR
            subst hR
            clear h0 h1 HR
            go_wp2_with fail
            go_ret2
            exact ⟨HB.out, g, rfl, HTF.out, AP.out.2⟩
end Go.Proofs.YtgcbmjflodgnbaaGreatDoor
