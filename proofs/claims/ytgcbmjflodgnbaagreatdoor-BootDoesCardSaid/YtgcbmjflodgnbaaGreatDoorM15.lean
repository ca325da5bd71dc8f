/- Boot: the document's Open. Boot: Put of the document's store. Boot: what stands between the calls of a script, of both stores at once. -/
import Derived.Test.YtgcbmjflodgnbaaGreatDoorM14
import Derived.Test.YtgcbmjflodgnbaaGreatDoorM12
import Derived.Test.YtgcbmjflodgnbaaGreatDoorM08
import Derived.Test.YtgcbmjflodgnbaaGreatDoorM13
import Derived.Deep.MidRow
namespace Go.Proofs.YtgcbmjflodgnbaaGreatDoor
set_option maxRecDepth 100000
set_option linter.unusedVariables false
open Go Go.RowKit

/-- What Open leaves. -/
def RBOpn (F : Nat) (q p bb cb : Nat) (w : World) (s : FS) (r : Except Int BS) (e : Ending) (w' : World) : Prop :=
  Below w.heap.size w w' ∧ match r with
  | .error x => e = .returned (.tuple #[.pointer none, .int .i64 x])
  | .ok t => ∃ g, e = .returned (.tuple #[.pointer (some ⟨g, 0, none⟩), .int .i64 0]) ∧ RBtS w' F g q p bb cb s t ∧ w.heap.size ≤ g
set_option maxHeartbeats 4000000 in
theorem rbopen_any (q p bb cb F : Nat) (s : FS) (w : World) (hf : Fl 73 w p bb cb s) (hok : s.Ok) (hp : RPa w q p (F : Nat) 2) (hi : In s.n.length (F : Nat) 2) (hq : q ∉ [p, bb, cb]) :
    Calls Tryz.prog 21 #[.pointer (some ⟨q, 0, none⟩)] w (RBOpn F q p bb cb w s (s.bopen F)) := by
  have SZ := Box.mk (fun w h => rsize_any q p (F : Nat) 2 s.n.length w h hi)
  have RD := Box.mk (rpread_any q p bb cb (F : Nat) 2 s 0 1024 w hf hok hp hi (by omega) (by omega))
  obtain ⟨R, hR⟩ : ∃ R, R = s.bopen F := ⟨_, rfl⟩
  rw [← hR]
  unfold FS.bopen at hR
  have HF := Box.mk hf; have HP := Box.mk hp; have HOK := Box.mk hok; have HI := Box.mk hi; have HQ := Box.mk hq
  cases hd : s.dead with
  | true => as_aux_lemma =>
    rw [if_pos hd] at hR
    have hrd : preadV s F 2 0 1024 = (⟨#[]⟩, 2) := by unfold preadV; rw [if_pos (by rw [inB_iff]; omega), hd, if_pos rfl]
    rw [hrd] at RD
    subst hR
    clear hd hrd hf hok hp hi hq
    go_enter Tryz.func21, Tryz.ntmps21
    go_wp2_with fail
    refine (SZ.out _ HP.out).mono ?_
    rintro e w1 ⟨rfl, rfl⟩
    go_wp2_with fail
    refine RD.out.mono ?_
    rintro e w1 ⟨rfl, hu⟩
    have U1 := Box.mk hu
    clear hu
    go_wp2_with fail
    go_ret2
    exact ⟨Upd.belowN U1.out, rfl⟩
  | false => as_aux_lemma =>
    rw [if_neg (by rw [hd]; decide)] at hR
    rw [bread_all hd hok hi] at RD
    obtain ⟨al, hal⟩ : ∃ al : ByteArray, al = ⟨((s.b.drop (512 * F)).take 1024).toArray⟩ := ⟨_, rfl⟩
    rw [← hal] at RD
    obtain ⟨hsz, hcut⟩ := bread_cut hok hi al hal
    have CUT := Box.mk hcut; have HR := Box.mk hR
    clear hal hcut hR hd hf hok hp hi hq
    go_enter Tryz.func21, Tryz.ntmps21
    go_wp2_with fail
    refine (SZ.out _ HP.out).mono ?_
    rintro e w1 ⟨rfl, rfl⟩
    go_wp2_with fail
    refine RD.out.mono ?_
    rintro e w1 ⟨rfl, hu⟩
    obtain ⟨g, hg⟩ : ∃ g, g = w1.heap.size := ⟨_, rfl⟩
    have LT0 := HF.out.lt; have LT2 := HP.out.lt
    obtain ⟨W2, hW2⟩ : ∃ W2, W2 = w1.alloc (.cells #[.pointer (some ⟨q, 0, none⟩), .int .i64 0, .bool false, .int .i64 0, .int .i64 0, .int .i64 0, .int .i64 0, .int .i64 0, .bool false] 59) := ⟨_, rfl⟩
    have BW2 : Box (Below w.heap.size w W2 ∧ RBt W2 g q (s.bscan F 0)) := ⟨by rw [hW2]; exact ⟨(Upd.belowN hu).alloc hu.size _, ⟨by rw [hg]; exact heap_alloc_new _ _⟩⟩⟩
    have AP := Box.mk (show Bap g q p bb cb ∧ w.heap.size ≤ g from ⟨⟨by have := hu.size; have hq := HQ.out; simp only [List.mem_cons, List.not_mem_nil, or_false, not_or] at hq ⊢; omega, by have := hu.size; have hq := HQ.out; simp only [List.mem_cons, List.not_mem_nil, or_false, not_or] at hq ⊢; omega⟩, by have := hu.size; omega⟩)
    clear hu LT0 LT2
    go_wp2_with fail
    rw [← hW2, ← hg]
    clear hW2 hg SZ RD
    go_loopw [7] (fun i wr => ∃ j : Nat, j ≤ 16 ∧ i = .int .i64 (j : Int) ∧ Below w.heap.size w wr ∧ RBt wr g q (s.bscan F j)) (fun i _ => 16 - (intOf i).toNat)
    case atStart => exact ⟨0, by omega, rfl, BW2.out⟩
    case round =>
      clear BW2
      obtain ⟨j, hj, rfl, hb, ht⟩ := hrel
      have HB := Box.mk hb; have HT := Box.mk ht
      clear hb ht
      by_cases hlt : j < 16
      · have hltI : (j : Int) < 16 := by omega
        obtain ⟨A, hA⟩ : ∃ A, A = 64 * j := ⟨_, rfl⟩
        obtain ⟨Z, hZ⟩ : ∃ Z, Z = 64 * j + 64 := ⟨_, rfl⟩
        have hAZ : (A : Int) ≤ (Z : Int) := by omega
        have hZI : (Z : Int) ≤ 1024 := by omega
        have hw0 : IntKind.i64.wrap (64 * (j : Int)) = (A : Int) := by rw [IntKind.wrap_i64]; omega
        have hw2 : IntKind.i64.wrap ((A : Int) + 64) = (Z : Int) := by rw [IntKind.wrap_i64]; omega
        obtain ⟨hsz1, hpg⟩ := CUT.out j hlt
        rw [← hZ, ← hA] at hsz1 hpg
        have PR := Box.mk (fun (w1 : World) => rcounts_any (al.extract A Z) hsz1 w1)
        rw [hpg] at PR
        have HS := Box.mk (show s.bscan F (j + 1) = if cntB (s.pg F 0 j) = true ∧ (s.bscan F j).seq < numB (s.pg F 0 j) then ⟨readB (s.pg F 0 j), numB (s.pg F 0 j), j / 8, false⟩ else s.bscan F j from rfl)
        have TDD := Box.mk (bscan_dead s F j)
        have LTJ := Box.mk hlt
        clear hsz1 hpg hlt hA hZ
        generalize s.pg F 0 j = P at PR HS
        obtain ⟨T1, hT1⟩ : ∃ T1, T1 = s.bscan F (j + 1) := ⟨_, rfl⟩
        have HT1 := Box.mk hT1
        rw [← hT1] at HS
        clear hT1
        generalize s.bscan F j = T0 at HT HS TDD
        obtain ⟨N, hN⟩ : ∃ N, N = numB P := ⟨_, rfl⟩
        rw [← hN] at PR HS
        obtain ⟨r, hr⟩ : ∃ r, r = readB P := ⟨_, rfl⟩
        rw [← hr] at PR HS
        clear hN hr
        go_upto_region 10 with (fail)
        cases hc : cntB P with
        | false => as_aux_lemma =>
          rw [hc] at PR
          have HX : Box (T1 = T0) := ⟨by rw [HS.out, if_neg]; rw [hc]; simp⟩
          clear hc HS
          refine wp_region_seq 15 [.flo, .flo, .flo, .flo, .flo, .flo, .flo, .cha, .flo, .flo, .flo, .flo, .new (.cells (brC BR.zero) 24 (0, 0)), .cha, .flo] (by rfl) rfl (by decide) ?_
          simp only [List.take, List.zip, List.zipWith]
          try go_frame
          refine gm_move (.tmp 4) (.inl rfl) (.string al) rfl ?_
          try go_frame
          refine gm_move (.tmp 7) (.inl rfl) (.int .i64 (j : Int)) rfl ?_
          try go_frame
          refine gm_flo (.int .i64 (A : Int)) (fun w1 hw1 => ?_) ?_
          case refine_1 =>
            go_simp
          try go_frame
          refine gm_move (.tmp 7) (.inl rfl) (.int .i64 (j : Int)) rfl ?_
          try go_frame
          refine gm_flo (.int .i64 (A : Int)) (fun w1 hw1 => ?_) ?_
          case refine_1 =>
            go_simp
          try go_frame
          refine gm_flo (.int .i64 (Z : Int)) (fun w1 hw1 => ?_) ?_
          case refine_1 =>
            go_simp
          try go_frame
          refine gm_flo (.string (al.extract A Z)) (fun w1 hw1 => ?_) ?_
          case refine_1 =>
            go_simp
          try go_frame
          refine gm_call [.string (al.extract A Z)] (by kernel_rfl) rfl rfl Stb.tt (fun w1 hw1 hF1 => (PR.out w1).mono ?_)
          rintro e w2 ⟨rfl, hb⟩
          refine ⟨_, rfl, hb, ?_⟩
          clear hw1 hF1 hb w1 w2
          try go_frame
          refine gm_move (.tmp 37) (.inl rfl) (.tuple #[brV r, .int .i64 (N : Int), .bool false]) rfl ?_
          try go_frame
          refine gm_extract (vs := #[brV r, .int .i64 (N : Int), .bool false]) (.tmp 29) 0 rfl rfl (brV r) rfl ?_
          try go_frame
          refine gm_extract (vs := #[brV r, .int .i64 (N : Int), .bool false]) (.tmp 29) 1 rfl rfl (.int .i64 (N : Int)) rfl ?_
          try go_frame
          refine gm_extract (vs := #[brV r, .int .i64 (N : Int), .bool false]) (.tmp 29) 2 rfl rfl (.bool false) rfl ?_
          try go_frame
          refine gm_alloc rfl (.cells (brC BR.zero) 24) (fun _ => by kernel_rfl) (fun b hb hn => ?_)
          try go_frame
          refine gm_storeN (.tmp 8) (.tmp 38) rfl b (brC BR.zero) (brC r) 24 rfl rfl (by simp) rfl (by kernel_rfl) rfl (brC_one _) (fun _ => True) (fun _ h => ⟨trivial, h.2⟩) Stb.tt (fun _ _ => trivial) ?_
          try go_frame
          refine gm_move (.tmp 39) (.inr rfl) (.int .i64 (N : Int)) rfl ?_
          try go_frame
          refine gm_nil ?_
          intro w9 hw9 hF9
          simp only [List.drop]
          try go_frame
          have B9 := Box.mk hw9.upd
          have HR9 := Box.mk hF9.2
          clear hw9 hF9 hb hn
          have HT9 := Box.mk (HT.out.upd B9.out (by simp))
          go_wp2_with fail
          exact ⟨⟨j + 1, LTJ.out, by go_num, HB.out.trans ((Upd.belowN B9.out).mono HB.out.size), by rw [← HT1.out, HX.out]; exact HT9.out⟩, by have := LTJ.out; simp [intOf]; omega⟩
        | true => as_aux_lemma =>
          rw [hc] at PR
          refine wp_region_seq 15 [.flo, .flo, .flo, .flo, .flo, .flo, .flo, .cha, .flo, .flo, .flo, .flo, .new (.cells (brC BR.zero) 24 (0, 0)), .cha, .flo] (by rfl) rfl (by decide) ?_
          simp only [List.take, List.zip, List.zipWith]
          try go_frame
          refine gm_move (.tmp 4) (.inl rfl) (.string al) rfl ?_
          try go_frame
          refine gm_move (.tmp 7) (.inl rfl) (.int .i64 (j : Int)) rfl ?_
          try go_frame
          refine gm_flo (.int .i64 (A : Int)) (fun w1 hw1 => ?_) ?_
          case refine_1 =>
            go_simp
          try go_frame
          refine gm_move (.tmp 7) (.inl rfl) (.int .i64 (j : Int)) rfl ?_
          try go_frame
          refine gm_flo (.int .i64 (A : Int)) (fun w1 hw1 => ?_) ?_
          case refine_1 =>
            go_simp
          try go_frame
          refine gm_flo (.int .i64 (Z : Int)) (fun w1 hw1 => ?_) ?_
          case refine_1 =>
            go_simp
          try go_frame
          refine gm_flo (.string (al.extract A Z)) (fun w1 hw1 => ?_) ?_
          case refine_1 =>
            go_simp
          try go_frame
          refine gm_call [.string (al.extract A Z)] (by kernel_rfl) rfl rfl Stb.tt (fun w1 hw1 hF1 => (PR.out w1).mono ?_)
          rintro e w2 ⟨rfl, hb⟩
          refine ⟨_, rfl, hb, ?_⟩
          clear hw1 hF1 hb w1 w2
          try go_frame
          refine gm_move (.tmp 37) (.inl rfl) (.tuple #[brV r, .int .i64 (N : Int), .bool true]) rfl ?_
          try go_frame
          refine gm_extract (vs := #[brV r, .int .i64 (N : Int), .bool true]) (.tmp 29) 0 rfl rfl (brV r) rfl ?_
          try go_frame
          refine gm_extract (vs := #[brV r, .int .i64 (N : Int), .bool true]) (.tmp 29) 1 rfl rfl (.int .i64 (N : Int)) rfl ?_
          try go_frame
          refine gm_extract (vs := #[brV r, .int .i64 (N : Int), .bool true]) (.tmp 29) 2 rfl rfl (.bool true) rfl ?_
          try go_frame
          refine gm_alloc rfl (.cells (brC BR.zero) 24) (fun _ => by kernel_rfl) (fun b hb hn => ?_)
          try go_frame
          refine gm_storeN (.tmp 8) (.tmp 38) rfl b (brC BR.zero) (brC r) 24 rfl rfl (by simp) rfl (by kernel_rfl) rfl (brC_one _) (fun _ => True) (fun _ h => ⟨trivial, h.2⟩) Stb.tt (fun _ _ => trivial) ?_
          try go_frame
          refine gm_move (.tmp 39) (.inr rfl) (.int .i64 (N : Int)) rfl ?_
          try go_frame
          refine gm_nil ?_
          intro w9 hw9 hF9
          simp only [List.drop]
          try go_frame
          have B9 := Box.mk hw9.upd
          have HR9 := Box.mk hF9.2
          clear hw9 hF9 hb hn
          have HT9 := Box.mk (HT.out.upd B9.out (by simp))
          have c6 := HT9.out.cells.2.2.2.2.2.2.1
          by_cases hle : T0.seq < N
          · have hleI : decide (T0.seq < N) = true := by rw [decide_eq_true_iff]; exact hle
            have HX : Box (T1 = ⟨r, N, j / 8, T0.dead⟩) := ⟨by rw [HS.out, if_pos ⟨hc, hle⟩, TDD.out]⟩
            clear hle HS hc
            obtain ⟨d, hd⟩ : ∃ d, d = j / 8 := ⟨_, rfl⟩
            have hdiv : (j : Int) / 8 = (d : Int) := by omega
            have hdw : IntKind.i64.wrap (d : Int) = (d : Int) := by rw [IntKind.wrap_i64]; omega
            rw [← hd] at HX
            have BB := Box.mk (HB.out.trans ((Upd.belowN B9.out).mono HB.out.size))
            have HR9b := Box.mk HR9.out
            have HDV := Box.mk (And.intro hdiv hdw)
            clear hd hw0 hw2 hAZ hZI PR HB HT B9 HR9 hdiv hdw
            go_upto_region 12 with (fail)
            have RB := Box.mk (show w9.heap[b]? = _ from HR9b.out)
            refine wp_region_seq 4 [.flo, .flo, .flo, .flo] (by rfl) rfl (by decide) ?_
            simp only [List.take, List.zip, List.zipWith]
            try go_frame
            refine gm_move (.tmp 6) (.inl rfl) (.pointer (some ⟨g, 0, none⟩)) rfl ?_
            try go_frame
            refine gm_loadS (.tmp 8) rfl b (brC r) 24 (0, 0) _ RB.out (by simp) rfl Tryz.underlying24 rfl (by kernel_rfl) ?_
            try go_frame
            refine gm_flo (.pointer (some ⟨g, 0, none⟩)) (fun w1 hw1 => ?_) ?_
            case refine_1 =>
              go_simp
            try go_frame
            refine gm_flo (.pointer (some ⟨g, 1, none⟩)) (fun w1 hw1 => ?_) ?_
            case refine_1 =>
              go_simp
            try go_frame
            refine gm_nil ?_
            intro w8 hw9 hF9
            simp only [List.drop]
            try go_frame
            have HTT := Box.mk (HT9.out.upd hw9.upd (by simp))
            have hg := AP.out.2
            have H9w := Box.mk (hw9.upd)
            have HTH : w8.there g 1 (brC r).size := fun i hi => ⟨by
              rw [cell_of_row _ _ _ _ _ _ HTT.out.row]
              simp only [brC, List.size_toArray, List.length_cons, List.length_nil] at hi
              match i, hi with
              | 0, _ => rfl
              | 1, _ => rfl
              | 2, _ => rfl
              | 3, _ => rfl
              | 4, _ => rfl, HTT.out.free _⟩
            have hst0 := run_storeCells_cells (P := Tryz.prog) g 1 (brC r).toList 0 w8 (fun i hi => by simpa using (HTH i (by simpa using hi)).1) (fun i hi => by simpa using (HTH i (by simpa using hi)).2) (fun v hv => (Array.all_eq_true_iff_forall_mem.1 (brC_one r)) v (by simpa using hv))
            obtain ⟨W5, hW5⟩ : ∃ W5, W5 = w8.setCells g 1 (brC r).toList := ⟨_, rfl⟩
            have hst : (storeCells ⟨g, 1, none⟩ (brC r).toList).run Tryz.prog w8 = .ok () W5 := by rw [hW5]; exact hst0
            have f6 : W5.frozen? ⟨g, 6, none⟩ = false := by rw [hW5, World.frozen?_setCells]; exact HTT.out.free _
            have f7 : W5.frozen? ⟨g, 7, none⟩ = false := by rw [hW5, World.frozen?_setCells]; exact HTT.out.free _
            have c6 : W5.cell? ⟨g, 6, none⟩ = some (.int .i64 (T0.seq : Int)) := by rw [hW5, World.cell?_setCells_out _ _ _ _ _ (fun _ _ => .inr (by simp [brC]))]; exact HTT.out.cells.2.2.2.2.2.2.1
            have c7 : W5.cell? ⟨g, 7, none⟩ = some (.int .i64 (T0.block : Int)) := by rw [hW5, World.cell?_setCells_out _ _ _ _ _ (fun _ _ => .inr (by simp [brC]))]; exact HTT.out.cells.2.2.2.2.2.2.2.1
            have HW5 := Box.mk hW5
            have hdiv := HDV.out.1; have hdw := HDV.out.2
            clear hW5 hst0 HTH
            clear hw9 hF9 HT9 RB HR9b hg HR CUT HF HP HOK HI HQ TDD
            go_wp2_with fail
            have hg := AP.out.2
            have FIN : Box (Below w.heap.size w ((W5.setCell ⟨g, 6, none⟩ (.int .i64 (N : Int))).setCell ⟨g, 7, none⟩ (.int .i64 (d : Int))) ∧ RBt ((W5.setCell ⟨g, 6, none⟩ (.int .i64 (N : Int))).setCell ⟨g, 7, none⟩ (.int .i64 (d : Int))) g q ⟨r, N, d, T0.dead⟩) := ⟨by
              rw [HW5.out]
              have h0 := BB.out.trans ((Upd.belowN H9w.out).mono BB.out.size)
              exact ⟨((((((h0.setCell hg _).setCell hg _).setCell hg _).setCell hg _).setCell hg _).setCell hg _).setCell hg _, HTT.out.setRec r N d⟩⟩
            exact ⟨⟨j + 1, LTJ.out, by rw [Int.natCast_add, Int.natCast_one], FIN.out.1, by rw [← HT1.out, HX.out]; exact FIN.out.2⟩, by have := LTJ.out; simp [intOf]; omega⟩
          · have hleI : decide (T0.seq < N) = false := by rw [decide_eq_false_iff_not]; exact hle
            have HX : Box (T1 = T0) := ⟨by rw [HS.out, if_neg]; intro h; exact hle h.2⟩
            clear hle HS hc
            go_wp2_with fail
            exact ⟨⟨j + 1, LTJ.out, by go_num, HB.out.trans ((Upd.belowN B9.out).mono HB.out.size), by rw [← HT1.out, HX.out]; exact HT9.out⟩, by have := LTJ.out; simp [intOf]; omega⟩
      · have hltI : ¬ (j : Int) < 16 := by omega
        obtain rfl : j = 16 := by omega
        have HTF := Box.mk (show RBtS wr F g q p bb cb s (s.bscan F 16) from ⟨AP.out.1, HF.out.upd (Upd.of_below (S := []) HB.out) (by simp) (by simp) (by simp), HOK.out, HP.out.upd (Upd.of_below (S := []) HB.out) (by simp), HI.out, HT.out⟩)
        have c6 := HT.out.cells.2.2.2.2.2.2.1
        generalize s.bscan F 16 = T0 at HTF HR c6
        clear HT hlt
        by_cases h0 : T0.seq = 0
        · have h0I : (((T0.seq : Nat) : Int) == 0) = true := by rw [beq_iff_eq]; omega
          have hR := HR.out
          rw [if_pos h0] at hR
          subst hR
          clear h0 HR
          go_wp2_with fail
          go_ret2
          exact ⟨HB.out, rfl⟩
        · have h0I : (((T0.seq : Nat) : Int) == 0) = false := by rw [beq_eq_false_iff_ne]; omega
          have hR := HR.out
          rw [if_neg h0] at hR
          by_cases h1 : 140737488355328 < T0.seq
          · have h1I : decide ((140737488355328 : Int) < (T0.seq : Int)) = true := by rw [decide_eq_true_iff]; omega
            rw [if_pos h1] at hR
            subst hR
            clear h0 h1 HR
            go_wp2_with fail
            go_ret2
            exact ⟨HB.out, rfl⟩
          · have h1I : decide ((140737488355328 : Int) < (T0.seq : Int)) = false := by rw [decide_eq_false_iff_not]; omega
            rw [if_neg h1] at hR
            subst hR
            clear h0 h1 HR
            go_wp2_with fail
            go_ret2
            exact ⟨HB.out, g, rfl, HTF.out, AP.out.2⟩
end Go.Proofs.YtgcbmjflodgnbaaGreatDoor
namespace Go.Proofs.YtgcbmjflodgnbaaGreatDoor
set_option maxRecDepth 100000
set_option linter.unusedVariables false
open Go Go.RowKit

theorem bfree_succ (s : FS) (F b k : Nat) : s.bfree F b (k + 1) = if s.bcl F (8 * b + k) = true then s.bfree F b k else k + 1 := rfl
set_option maxHeartbeats 2000000 in
theorem rbput_any (g q p bb cb F : Nat) (s : FS) (t : BS) (r : BR) (w : World) (h : RBtS w F g q p bb cb s t) (hb2 : t.block < 2) (hn : t.seq + 1 < 281474976710656) :
    Calls Tryz.prog 27 #[.pointer (some ⟨g, 0, none⟩), brV r] w fun e w' => e = .returned (.int .i64 (s.bput F t r).2.2) ∧ RBtS w' F g q p bb cb (s.bput F t r).1 (s.bput F t r).2.1 ∧ Upd [g, p, bb, cb] w w' := by
  obtain ⟨V, hV⟩ : ∃ V, V = s.bput F t r := ⟨_, rfl⟩
  rw [← hV]
  unfold FS.bput at hV
  have MA := Box.mk (fun w => rmay_any r w)
  obtain ⟨b0, hb0⟩ : ∃ b0, b0 = w.heap.size := ⟨_, rfl⟩
  have LT0 := h.f.lt; have LT1 := h.bt.lt; have LT2 := h.pa.lt
  have NB := Box.mk (show b0 ∉ [g, p, bb, cb] ∧ b0 ≠ g from ⟨by simp only [List.mem_cons, List.not_mem_nil, or_false, not_or]; omega, by omega⟩)
  have ROW0 := Box.mk (show (w.alloc (.cells (brC r) 24)).heap[b0]? = some (.cells (brC r) 24 (0, 0)) from by rw [hb0]; exact heap_alloc_new _ _)
  have H0 := Box.mk (h.keep ((Upd.refl [] w).alloc (.cells (brC r) 24)))
  have U0 := Box.mk ((Upd.refl [g, p, bb, cb] w).alloc (.cells (brC r) 24))
  have HB := Box.mk hb2; have HN := Box.mk hn
  clear h LT0 LT1 LT2 hb2 hn
  unfold brV brC at *
  cases hm : r.may with
  | false => as_aux_lemma =>
    rw [if_pos hm] at hV
    rw [hm] at MA
    subst hV
    clear hm ROW0
    go_enter Tryz.func27, Tryz.ntmps27
    go_wp2_with fail
    refine (MA.out _).mono ?_
    rintro e w1 ⟨rfl, hb⟩
    have H1 := Box.mk (H0.out.keep (Upd.of_below hb)); have U1 := Box.mk (U0.out.trans (Upd.of_below (S := [g, p, bb, cb]) hb)); clear hb
    go_wp2_with fail
    go_ret
    exact ⟨rfl, H1.out, U1.out⟩
  | true => as_aux_lemma =>
    rw [if_neg (by rw [hm]; decide)] at hV
    rw [hm] at MA
    have HMAY := Box.mk ((BR.may_iff r).1 hm)
    clear hm
    cases hd : t.dead with
    | true => as_aux_lemma =>
      rw [if_pos hd] at hV
      subst hV
      clear ROW0
      go_enter Tryz.func27, Tryz.ntmps27
      go_wp2_with fail
      refine (MA.out _).mono ?_
      rintro e w1 ⟨rfl, hb⟩
      have H1 := Box.mk (H0.out.keep (Upd.of_below hb)); have U1 := Box.mk (U0.out.trans (Upd.of_below (S := [g, p, bb, cb]) hb)); clear hb
      have c8 := H1.out.bt.cells.2.2.2.2.2.2.2.2
      rw [hd] at c8
      clear hd
      go_wp2_with fail
      go_ret
      exact ⟨rfl, H1.out, U1.out⟩
    | false => as_aux_lemma =>
      rw [if_neg (by rw [hd]; decide)] at hV
      go_enter Tryz.func27, Tryz.ntmps27
      go_wp2_with fail
      refine (MA.out _).mono ?_
      rintro e w1 ⟨rfl, hb⟩
      have H1 := Box.mk ((H0.out.keep (Upd.of_below hb)).keep (Upd.refl [] _).drew); have U1 := Box.mk ((U0.out.trans (Upd.of_below (S := [g, p, bb, cb]) hb)).trans (Upd.refl _ _).drew)
      have ROW1 := Box.mk (show w1.drew.heap[b0]? = _ from (hb.block b0 (Array.getElem?_eq_some_iff.1 ROW0.out).1).trans ROW0.out)
      have c8 := (H0.out.keep (Upd.of_below hb)).bt.cells.2.2.2.2.2.2.2.2
      have c7 := (H0.out.keep (Upd.of_below hb)).bt.cells.2.2.2.2.2.2.2.1
      clear hb ROW0 H0 U0 MA
      rw [hd] at c8
      rw [← hb0]
      clear hb0
      go_wp2_with fail
      go_region
      clear c7 c8
      obtain ⟨wd, hwd⟩ : ∃ wd, wd = w1.drew := ⟨_, rfl⟩
      rw [← hwd] at H1 U1 ROW1 ⊢
      clear hwd
      go_wp2_with fail
      go_loopw [5, 7] (fun pg i wr => ∃ j : Nat, j ≤ 8 ∧ pg = .int .i64 (s.bfree F t.block j : Int) ∧ i = .int .i64 (j : Int) ∧ RBtS wr F g q p bb cb s t ∧ Upd [g, p, bb, cb] w wr ∧ wr.heap[b0]? = some (.cells (brC r) 24 (0, 0)) ∧ (s.dead = true → j = 0)) (fun _ i _ => 8 - (intOf i).toNat)
      case atStart => exact ⟨0, by omega, rfl, rfl, H1.out, U1.out, ROW1.out, fun _ => rfl⟩
      case round =>
        clear H1 U1 ROW1
        obtain ⟨j, hj, rfl, rfl, h1, hu, hr, hdj⟩ := hrel
        have H := Box.mk h1; have UU := Box.mk hu; have ROW := Box.mk hr; have HD := Box.mk hdj
        clear h1 hu hr hdj
        obtain ⟨c0, x1, x2, x3, x4, x5, x6, c7, x8⟩ := H.out.bt.cells
        clear x1 x2 x3 x4 x5 x6 x8
        obtain ⟨k, hk⟩ : ∃ k, k = s.bfree F t.block j := ⟨_, rfl⟩
        rw [← hk]
        have HK := Box.mk hk
        clear hk
        by_cases hlt : j < 8
        · as_aux_lemma =>
          have hltI : (j : Int) < 8 := by omega
          obtain ⟨A, hA⟩ : ∃ A, A = 512 * t.block := ⟨_, rfl⟩
          obtain ⟨C, hC⟩ : ∃ C, C = 64 * j := ⟨_, rfl⟩
          obtain ⟨D, hD⟩ : ∃ D, D = A + C := ⟨_, rfl⟩
          have hb2 := HB.out
          have hw0 : IntKind.i64.wrap (512 * (t.block : Int)) = (A : Int) := by rw [IntKind.wrap_i64]; omega
          have hw1 : IntKind.i64.wrap (64 * (j : Int)) = (C : Int) := by rw [IntKind.wrap_i64]; omega
          have hw2 : IntKind.i64.wrap ((A : Int) + (C : Int)) = (D : Int) := by rw [IntKind.wrap_i64]; omega
          have PC := Box.mk (fun w (h : RBtS w F g q p bb cb s t) => rpclean_any q p bb cb F 2 s (D : Nat) 64 w h.f h.ok h.pa h.i (by omega) (by omega))
          have HX : Box (pcleanV s F 2 (D : Int) 64 = if s.dead then (false, 2) else (s.bcl F (8 * t.block + j), 0)) := ⟨by
            have e : (D : Int) = ((512 * t.block + 64 * j : Nat) : Int) := by omega
            rw [e]
            cases hd : s.dead with
            | true => rw [if_pos rfl]; exact pclean_dead hd hb2 hlt
            | false => rw [if_neg (by decide)]; exact pclean_page hd H.out.ok H.out.i hb2 hlt⟩
          have HS := Box.mk (bfree_succ s F t.block j)
          rw [← HK.out] at HS
          generalize pcleanV s F 2 (D : Int) 64 = x at PC HX
          obtain ⟨x1, x2⟩ := x
          dsimp only at PC HX
          have TD := Box.mk (fun w1 (h : RBtS w1 F g q p bb cb s t) e => rbtold_any g q t e w1 h.bt)
          have HLT := Box.mk hlt
          clear hA hC hD hb2 hlt hj
          go_wp2_with fail
          refine (PC.out _ H.out).mono ?_
          rintro e w2 ⟨rfl, hu⟩
          have H2 := Box.mk (H.out.keep hu)
          have U2 := Box.mk (UU.out.trans (hu.mono (T := [g, p, bb, cb]) (by simp)))
          have ROW2 := Box.mk ((hu.block b0 (Array.getElem?_eq_some_iff.1 ROW.out).1 (by simp)).trans ROW.out)
          clear hu H UU ROW PC c0 c7
          cases hsd : s.dead with
          | true =>
            have hx := HX.out
            rw [hsd, if_pos rfl] at hx
            rw [if_pos hsd] at hV
            cases hx
            subst hV
            clear hsd HX hw0 hw1 hw2
            go_wp2_with fail
            refine (TD.out _ H2.out _).mono ?_
            rintro e w3 ⟨rfl, hl, hu⟩
            have H3 := Box.mk (H2.out.own hl hu); have U3 := Box.mk (U2.out.trans (hu.mono (T := [g, p, bb, cb]) (by simp))); clear hl hu
            go_wp2_with fail
            go_ret
            exact ⟨rfl, H3.out, U3.out⟩
          | false =>
            have hx := HX.out
            rw [hsd, if_neg (by decide)] at hx
            injection hx with hx1 hx2
            subst hx2
            cases x1 with
            | true =>
              have HQ : Box (s.bfree F t.block (j + 1) = k) := ⟨by rw [HS.out, if_pos hx1.symm]⟩
              clear hx1 HX hw0 hw1 hw2 HS
              go_wp2_with fail
              exact ⟨⟨j + 1, HLT.out, by rw [HQ.out], by go_num, H2.out, U2.out, ROW2.out, fun h => by rw [hsd] at h; cases h⟩, by have := HLT.out; simp [intOf]; omega⟩
            | false =>
              have HQ : Box (s.bfree F t.block (j + 1) = j + 1) := ⟨by rw [HS.out, if_neg (by rw [← hx1]; decide)]⟩
              clear hx1 HX hw0 hw1 hw2 HS
              go_wp2_with fail
              exact ⟨⟨j + 1, HLT.out, by rw [HQ.out]; go_num, by go_num, H2.out, U2.out, ROW2.out, fun h => by rw [hsd] at h; cases h⟩, by have := HLT.out; simp [intOf]; omega⟩
        · as_aux_lemma =>
          have hltI : ¬ (j : Int) < 8 := by omega
          obtain rfl : j = 8 := by omega
          have hsd : s.dead = false := by
            cases hd : s.dead with
            | false => rfl
            | true => have := HD.out hd; omega
          rw [if_neg (by rw [hsd]; decide), ← HK.out] at hV
          have hk8 : k ≤ 8 := by rw [HK.out]; exact (bfree_spec s F t.block 8).1
          clear HK HD hsd hj hlt
          obtain ⟨m, hm⟩ : ∃ m, m = t.seq + 1 := ⟨_, rfl⟩
          have hseq : IntKind.i64.wrap ((t.seq : Int) + 1) = (m : Int) := by have := HN.out; rw [IntKind.wrap_i64]; omega
          have HN := Box.mk (show m < 281474976710656 by rw [hm]; exact HN.out)
          rw [← hm] at hV
          by_cases h8 : k = 8
          · rw [if_pos h8] at hV
            subst h8
            have CL := Box.mk (fun w (h : RBtS w F g q p bb cb s t) => rbclean_any g q p bb cb F s t (1 - t.block) w h (by omega))
            obtain ⟨c, hc⟩ : ∃ c, c = s.bclean F t (1 - t.block) := ⟨_, rfl⟩
            rw [← hc] at CL hV
            have SEQ : Box (c.2.1.seq = t.seq) := ⟨by rw [hc]; rfl⟩
            clear hc
            obtain ⟨s1, t1, e1⟩ := c
            dsimp only at CL hV SEQ
            obtain ⟨nb, hnb⟩ : ∃ nb : Nat, nb = 1 - t.block := ⟨_, rfl⟩
            rw [← hnb] at CL hV
            have hw0 : IntKind.i64.wrap (1 - (t.block : Int)) = (nb : Int) := by have := HB.out; rw [IntKind.wrap_i64]; omega
            have HNB := Box.mk (show nb < 2 by omega)
            clear hnb
            go_wp2_with fail
            refine (CL.out _ H.out).mono ?_
            rintro e w3 ⟨rfl, hl, hu⟩
            have H3 := Box.mk hl; have U3 := Box.mk (UU.out.trans hu)
            have ROW3 := Box.mk ((hu.block b0 (Array.getElem?_eq_some_iff.1 ROW.out).1 NB.out.1).trans ROW.out)
            clear hl hu ROW H UU CL c7 c0 hw0
            by_cases he : e1 = 0
            · have heb : (e1 != 0) = false := by simpa using he
              rw [if_neg (by simpa using he)] at hV
              have HM := Box.mk hV
              have hsq1 : IntKind.i64.wrap ((t1.seq : Int) + 1) = (m : Int) := by rw [SEQ.out]; exact hseq
              clear hV he hseq hm
              have KP := Box.mk (fun w (h : RBtS w F g q p bb cb s1 t1) => rbkeep_any g q p bb cb F s1 t1 r m nb 0 w h HMAY.out HN.out HNB.out (by omega))
              rw [show ((0 : Nat) : Int) = 0 from rfl] at KP
              have RG := Box.mk (show w3.drew.heap[g]? = _ from H3.out.bt.row)
              have RB := Box.mk (show w3.drew.heap[b0]? = _ from ROW3.out)
              go_upto_region 20 with (fail)
              refine wp_region_mix 9 [.flo, .flo, .flo, .flo, .flo, .flo, .flo, .flo, .flo] (by kernel_rfl) (by kernel_rfl) rfl ?_
              simp only [List.take, List.zip, List.zipWith]
              try go_frame
              refine gm_move (.tmp 0) (.inl rfl) (.pointer (some ⟨g, 0, none⟩)) rfl ?_
              try go_frame
              refine gm_loadS (.tmp 3) rfl b0 (brC r) 24 (0, 0) _ RB.out (by simp) rfl Tryz.underlying24 rfl (by kernel_rfl) ?_
              try go_frame
              refine gm_move (.tmp 0) (.inl rfl) (.pointer (some ⟨g, 0, none⟩)) rfl ?_
              try go_frame
              refine gm_flo (.pointer (some ⟨g, 0, none⟩)) (fun w1 hw1 => ?_) ?_
              case refine_1 =>
                go_simp
              try go_frame
              refine gm_flo (.pointer (some ⟨g, 6, none⟩)) (fun w1 hw1 => ?_) ?_
              case refine_1 =>
                go_simp
              try go_frame
              refine gm_flo (.int .i64 ((t1).seq : Int)) (fun w1 hw1 => ?_) ?_
              case refine_1 =>
                have e1 : w1.cell? ⟨g, 6, none⟩ = some (.int .i64 ((t1).seq : Int)) := (cell_of_row _ _ _ _ _ _ (hw1.at (by simp) RG.out)).trans rfl
                go_simp
              try go_frame
              refine gm_flo (.int .i64 (m : Int)) (fun w1 hw1 => ?_) ?_
              case refine_1 =>
                go_simp
              try go_frame
              refine gm_move (.tmp 6) (.inl rfl) (.int .i64 (nb : Int)) rfl ?_
              try go_frame
              refine gm_move (.tmp 5) (.inl rfl) (.int .i64 0) rfl ?_
              try go_frame
              refine gm_nil ?_
              intro w9 hw9 hF9
              simp only [List.drop]
              try go_frame
              have U9 := Box.mk ((Upd.refl [] w3).drew.trans hw9.upd); clear hw9 hF9
              have H9 := Box.mk (H3.out.keep U9.out)
              have UA := Box.mk (U3.out.trans (U9.out.mono (T := [g, p, bb, cb]) (by simp)))
              clear RG RB H3 U9 ROW3 U3
              go_wp2_with fail
              refine (KP.out _ H9.out).mono ?_
              rintro e w2 ⟨rfl, hl, hu⟩
              have H10 := Box.mk hl; have U10 := Box.mk (UA.out.trans hu); clear hl hu H9 UA
              go_wp2_with fail
              go_ret
              rw [HM.out]; exact ⟨rfl, H10.out, U10.out⟩
            · have heb : (e1 != 0) = true := by rw [bne_iff_ne]; exact he
              rw [if_pos (by simpa using he)] at hV
              subst hV
              clear he
              go_wp2_with fail
              go_ret
              exact ⟨rfl, H3.out, U3.out⟩
          · rw [if_neg h8] at hV
            have h8b : (((k : Nat) : Int) == 8) = false := by rw [beq_eq_false_iff_ne]; omega
            have HM := Box.mk hV
            have KP := Box.mk (fun w (h : RBtS w F g q p bb cb s t) => rbkeep_any g q p bb cb F s t r m t.block k w h HMAY.out HN.out HB.out (by omega))
            clear hV h8 hk8 hm c0 c7
            have RG := Box.mk (show wr.drew.heap[g]? = _ from H.out.bt.row)
            have RB := Box.mk (show wr.drew.heap[b0]? = _ from ROW.out)
            go_upto_region 20 with (fail)
            refine wp_region_mix 9 [.flo, .flo, .flo, .flo, .flo, .flo, .flo, .flo, .flo] (by kernel_rfl) (by kernel_rfl) rfl ?_
            simp only [List.take, List.zip, List.zipWith]
            try go_frame
            refine gm_move (.tmp 0) (.inl rfl) (.pointer (some ⟨g, 0, none⟩)) rfl ?_
            try go_frame
            refine gm_loadS (.tmp 3) rfl b0 (brC r) 24 (0, 0) _ RB.out (by simp) rfl Tryz.underlying24 rfl (by kernel_rfl) ?_
            try go_frame
            refine gm_move (.tmp 0) (.inl rfl) (.pointer (some ⟨g, 0, none⟩)) rfl ?_
            try go_frame
            refine gm_flo (.pointer (some ⟨g, 0, none⟩)) (fun w1 hw1 => ?_) ?_
            case refine_1 =>
              go_simp
            try go_frame
            refine gm_flo (.pointer (some ⟨g, 6, none⟩)) (fun w1 hw1 => ?_) ?_
            case refine_1 =>
              go_simp
            try go_frame
            refine gm_flo (.int .i64 ((t).seq : Int)) (fun w1 hw1 => ?_) ?_
            case refine_1 =>
              have e1 : w1.cell? ⟨g, 6, none⟩ = some (.int .i64 ((t).seq : Int)) := (cell_of_row _ _ _ _ _ _ (hw1.at (by simp) RG.out)).trans rfl
              go_simp
            try go_frame
            refine gm_flo (.int .i64 (m : Int)) (fun w1 hw1 => ?_) ?_
            case refine_1 =>
              go_simp
            try go_frame
            refine gm_move (.tmp 6) (.inl rfl) (.int .i64 (t.block : Int)) rfl ?_
            try go_frame
            refine gm_move (.tmp 5) (.inl rfl) (.int .i64 (k : Int)) rfl ?_
            try go_frame
            refine gm_nil ?_
            intro w9 hw9 hF9
            simp only [List.drop]
            try go_frame
            have U9 := Box.mk ((Upd.refl [] wr).drew.trans hw9.upd); clear hw9 hF9
            have H9 := Box.mk (H.out.keep U9.out)
            have UA := Box.mk (UU.out.trans (U9.out.mono (T := [g, p, bb, cb]) (by simp)))
            clear RG RB H U9 ROW UU
            go_wp2_with fail
            refine (KP.out _ H9.out).mono ?_
            rintro e w2 ⟨rfl, hl, hu⟩
            have H10 := Box.mk hl; have U10 := Box.mk (UA.out.trans hu); clear hl hu H9 UA
            go_wp2_with fail
            go_ret
            rw [HM.out]; exact ⟨rfl, H10.out, U10.out⟩
end Go.Proofs.YtgcbmjflodgnbaaGreatDoor
namespace Go.Proofs.YtgcbmjflodgnbaaGreatDoor
set_option maxRecDepth 100000
set_option linter.unusedVariables false
open Go Go.RowKit

theorem bkeep_bs (s : FS) (F : Nat) (t : BS) (r : BR) (n b p : Nat) (hb : b < 2) (hb2 : t.block < 2) (hn : n ≤ t.seq + 1) : (s.bkeep F t r n b p).2.1.block < 2 ∧ (s.bkeep F t r n b p).2.1.seq ≤ t.seq + 1 := by
  unfold FS.bkeep FS.bwrite BS.told
  dsimp only
  (repeat' split) <;> exact ⟨by first | exact hb2 | exact hb, by first | exact hn | exact Nat.le_succ _⟩
theorem bput_bs (s : FS) (F : Nat) (t : BS) (r : BR) (hb2 : t.block < 2) : (s.bput F t r).2.1.block < 2 ∧ (s.bput F t r).2.1.seq ≤ t.seq + 1 := by
  unfold FS.bput
  dsimp only
  (repeat' split)
  · exact ⟨hb2, Nat.le_succ _⟩
  · exact ⟨hb2, Nat.le_succ _⟩
  · exact ⟨hb2, Nat.le_succ _⟩
  · exact ⟨hb2, Nat.le_succ _⟩
  · have := bkeep_bs (s.bclean F t (1 - t.block)).1 F (s.bclean F t (1 - t.block)).2.1 r (t.seq + 1) (1 - t.block) 0 (by omega) hb2 (Nat.le_refl _)
    exact this
  · exact bkeep_bs s F t r (t.seq + 1) t.block _ hb2 hb2 (Nat.le_refl _)
theorem bscan_block (s : FS) (F : Nat) : ∀ k, k ≤ 16 → (s.bscan F k).block < 2
  | 0, _ => by show 0 < 2; omega
  | k + 1, h => by
    rw [FS.bscan]; split
    · show k / 8 < 2; omega
    · exact bscan_block s F k (by omega)
theorem bopen_bs {s : FS} {F : Nat} {t : BS} (h : s.bopen F = .ok t) : t.block < 2 ∧ t.seq ≤ 140737488355328 := by
  unfold FS.bopen at h
  split at h
  · cases h
  · split at h
    · cases h
    · split at h
      · cases h
      · injection h with h; rw [← h]; exact ⟨bscan_block s F 16 (by omega), by omega⟩
theorem bopen_err {s : FS} {F : Nat} {x : Int} (h : s.bopen F = .error x) : x ≠ 0 := by
  unfold FS.bopen at h
  (repeat' split at h) <;> first | (injection h with h; omega) | cases h
theorem all5 {P : Nat → Prop} {a b c d e : Nat} (h1 : P a) (h2 : P b) (h3 : P c) (h4 : P d) (h5 : P e) : ∀ k, k ∈ [a, b, c, d, e] → P k := by
  intro k hk
  simp only [List.mem_cons, List.not_mem_nil, or_false] at hk
  rcases hk with rfl | rfl | rfl | rfl | rfl <;> assumption
theorem BtS.lt5 {w : World} {F g q p bb cb : Nat} {s : FS} {t : BS} (h : BtS w F g q p bb cb s t) : ∀ k, k ∈ [g, q, p, bb, cb] → k < w.heap.size := all5 h.bt.lt h.pa.lt h.f.lt.1 h.f.lt.2.1 h.f.lt.2.2
theorem RBtS.lt5 {w : World} {F g q p bb cb : Nat} {s : FS} {t : BS} (h : RBtS w F g q p bb cb s t) : ∀ k, k ∈ [g, q, p, bb, cb] → k < w.heap.size := all5 h.bt.lt h.pa.lt h.f.lt.1 h.f.lt.2.1 h.f.lt.2.2
theorem BtS.away {w w' : World} {F g q p bb cb : Nat} {s : FS} {t : BS} {S : List Nat} (h : BtS w F g q p bb cb s t) (hu : Upd S w w') (hn : ∀ k, k ∈ [g, q, p, bb, cb] → k ∉ S) : BtS w' F g q p bb cb s t :=
  h.far hu (hn g (by simp)) (hn q (by simp)) (hn p (by simp)) (hn bb (by simp)) (hn cb (by simp))
theorem RBtS.away {w w' : World} {F g q p bb cb : Nat} {s : FS} {t : BS} {S : List Nat} (h : RBtS w F g q p bb cb s t) (hu : Upd S w w') (hn : ∀ k, k ∈ [g, q, p, bb, cb] → k ∉ S) : RBtS w' F g q p bb cb s t :=
  h.far hu (hn g (by simp)) (hn q (by simp)) (hn p (by simp)) (hn bb (by simp)) (hn cb (by simp))
/-- Both stores, in one state, apart. -/
structure Two (w wr : World) (g q p bb cb g' q' p' bb' cb' : Nat) (s : FS) (t : BS) (j : Nat) : Prop where
  bt : BtS wr 1 g q p bb cb s t
  rbt : RBtS wr 1 g' q' p' bb' cb' s t
  be : Below w.heap.size w wr
  lo : ∀ k, k ∈ [g, q, p, bb, cb] → w.heap.size ≤ k
  lo' : ∀ k, k ∈ [g', q', p', bb', cb'] → w.heap.size ≤ k
  ap : ∀ k, k ∈ [g', q', p', bb', cb'] → k ∉ [g, q, p, bb, cb]
  b2 : t.block < 2
  num : t.seq ≤ 140737488355328 + j
  n3 : s.n.length = 3
theorem Two.ap' {w wr : World} {g q p bb cb g' q' p' bb' cb' : Nat} {s : FS} {t : BS} {j : Nat} (h : Two w wr g q p bb cb g' q' p' bb' cb' s t j) : ∀ k, k ∈ [g, q, p, bb, cb] → k ∉ [g', q', p', bb', cb'] := fun k h1 h2 => h.ap k h2 h1
theorem Two.keep {w wr w' : World} {g q p bb cb g' q' p' bb' cb' : Nat} {s : FS} {t : BS} {j : Nat} (h : Two w wr g q p bb cb g' q' p' bb' cb' s t j) (hu : Upd [] wr w') : Two w w' g q p bb cb g' q' p' bb' cb' s t j :=
  ⟨h.bt.keep hu, h.rbt.keep hu, Upd.below h.be hu (fun k hk => by cases hk) h.be.size, h.lo, h.lo', h.ap, h.b2, h.num, h.n3⟩
/-- The program's store has gone on; then the document's. -/
theorem Two.step {w wr w1 w2 : World} {g q p bb cb g' q' p' bb' cb' : Nat} {s s' : FS} {t t' : BS} {j j' : Nat} {S S' : List Nat} (h : Two w wr g q p bb cb g' q' p' bb' cb' s t j) (h1 : BtS w1 1 g q p bb cb s' t') (u1 : Upd S wr w1) (hS : ∀ k, k ∈ S → k ∈ [g, q, p, bb, cb])
    (h2 : RBtS w2 1 g' q' p' bb' cb' s' t') (u2 : Upd S' w1 w2) (hS' : ∀ k, k ∈ S' → k ∈ [g', q', p', bb', cb']) (hb : t'.block < 2) (hn : t'.seq ≤ 140737488355328 + j') (h3 : s'.n.length = 3) : Two w w2 g q p bb cb g' q' p' bb' cb' s' t' j' :=
  ⟨h1.away u2 (fun k hk hs => h.ap' k hk (hS' k hs)), h2, Upd.below (Upd.below h.be u1 (fun k hk => h.lo k (hS k hk)) h.be.size) u2 (fun k hk => h.lo' k (hS' k hk)) (Nat.le_trans h.be.size u1.size), h.lo, h.lo', h.ap, hb, hn, h3⟩
theorem Two.doc {w wr w1 : World} {g q p bb cb g' q' p' bb' cb' : Nat} {s : FS} {t : BS} {j : Nat} {S : List Nat} (h : Two w wr g q p bb cb g' q' p' bb' cb' s t j) (u1 : Upd S wr w1) (hS : ∀ k, k ∈ S → k ∈ [g, q, p, bb, cb]) : RBtS w1 1 g' q' p' bb' cb' s t :=
  h.rbt.away u1 (fun k hk hs => h.ap k hk (hS k hs))
section
variable {W : World} {S : List Nat} {T : (World → Prop) → List Nat → Act → Prop} {L : List (Oper × Kd)} {F : World → Prop} {N : List Nat} {a : Act} {o : Oper}
/-- A record out of the middle of a block. -/
theorem gm_loadMB (x : Operand) (ho : o.op = .load 24 x) (b off : Nat) (cs : Array Value) (t' : TypeId) (hb : W.heap[b]? = some (.cells cs t' (0, 0))) (hbS : b ∉ S) (hx : a.eval x = .pointer (some ⟨b, off, none⟩)) (r : BR)
    (ht : ∀ j u, (brC r).toList[j]? = some u → cs[off + j]? = some u)
    (h : wpG Tryz.prog W S T L F N (a.put o.dst (.agg #[.int .i64 r.slot, .bool r.up, .int .i64 r.count, .int .i64 r.s0, .int .i64 r.s1]))) : wpG Tryz.prog W S T ((o, .flo) :: L) F N a :=
  gm_flo _ (fun w hw => by
    unfold execOp
    simp only [ho, hx, Sem.run_bind, Sem.run_pure, Result.andThen_ok, run_loadAt_mid w b off 24 (brC r).toList _ (fun j u hj => (cell_of_row _ _ _ _ _ _ (hw.at hbS hb)).trans (ht j u hj)) Tryz.underlying24 rfl (by kernel_rfl)]
    rfl) h
end
end Go.Proofs.YtgcbmjflodgnbaaGreatDoor
