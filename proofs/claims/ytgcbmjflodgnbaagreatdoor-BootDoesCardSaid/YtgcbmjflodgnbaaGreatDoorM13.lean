/- Boot: Open. The document of logs: clean, makes (of a log without segments), Format. The logs' laws: region, over, laid. The boot laws: two, laid. The boot laws: fixed. Boot records compared. -/
import Derived.Test.YtgcbmjflodgnbaaGreatDoorM10
import Derived.Test.YtgcbmjflodgnbaaGreatDoorM12
import Derived.Test.YtgcbmjflodgnbaaGreatDoorM08
namespace Go.Proofs.YtgcbmjflodgnbaaGreatDoor
set_option maxRecDepth 100000
set_option linter.unusedVariables false
open Go Go.RowKit

/-- What Open leaves. -/
def BOpn (F : Nat) (q p bb cb : Nat) (w : World) (s : FS) (r : Except Int BS) (e : Ending) (w' : World) : Prop :=
  Below w.heap.size w w' ∧ match r with
  | .error x => e = .returned (.tuple #[.pointer none, .int .i64 x])
  | .ok t => ∃ g, e = .returned (.tuple #[.pointer (some ⟨g, 0, none⟩), .int .i64 0]) ∧ BtS w' F g q p bb cb s t ∧ w.heap.size ≤ g
theorem Upd.belowN {a b : World} (u : Upd [] a b) : Below a.heap.size a b := ⟨u.os, u.tape, u.output, u.size, fun i hi => u.block i hi (by simp)⟩
theorem brC_one (r : BR) : (brC r).all (·.oneCell') = true := by simp [brC, Value.oneCell']
theorem bscan_dead (s : FS) (F : Nat) : ∀ k, (s.bscan F k).dead = false
  | 0 => rfl
  | k + 1 => by rw [FS.bscan]; split; rfl; exact bscan_dead s F k
theorem num48 (p : List UInt8) : numB p < 281474976710656 := by
  unfold numB
  have h := leNat_lt ((p.drop 1).take 6)
  have h2 : ((p.drop 1).take 6).length ≤ 6 := by rw [List.length_take]; omega
  exact Nat.lt_of_lt_of_le h (Nat.le_trans (Nat.pow_le_pow_right (by omega) h2) (by decide))
theorem bscan_seq (s : FS) (F : Nat) : ∀ k, (s.bscan F k).seq < 281474976710656
  | 0 => by show 0 < _; omega
  | k + 1 => by rw [FS.bscan]; split; exact num48 _; exact bscan_seq s F k
theorem bread_all {s : FS} (hd : s.dead = false) (hok : s.Ok) {F : Nat} (hin : In s.n.length F 2) : preadV s F 2 0 1024 = (⟨((s.b.drop (512 * F)).take 1024).toArray⟩, 0) := by
  have hin2 : inB 2 0 1024 = true := by rw [inB_iff]; omega
  unfold preadV
  rw [if_pos hin2, hd, if_neg (by decide), show (512 * (F : Int) + 0).toNat = 512 * F by omega]; rfl
theorem bread_cut {s : FS} (hok : s.Ok) {F : Nat} (hin : In s.n.length F 2) (al : ByteArray) (hal : al = ⟨((s.b.drop (512 * F)).take 1024).toArray⟩) : al.size = 1024 ∧ ∀ j, j < 16 → (al.extract (64 * j) (64 * j + 64)).size = 64 ∧ (al.extract (64 * j) (64 * j + 64)).data.toList = s.pg F 0 j := by
  have hhi := hin.hi; have hlen := hok.len
  have hs : al.size = 1024 := by rw [hal]; show ((s.b.drop (512 * F)).take 1024).toArray.size = 1024; simp; omega
  refine ⟨hs, fun j hj => ⟨by rw [ByteArray.size_extract]; omega, ?_⟩⟩
  rw [ba_cut, hal]
  apply List.ext_getElem?; intro k
  rw [pg_at, List.getElem?_take, List.getElem?_drop]
  by_cases hk : k < 64
  · rw [if_pos (by omega), if_pos hk]
    show ((s.b.drop (512 * F)).take 1024)[64 * j + k]? = _
    rw [List.getElem?_take_of_lt (by omega), List.getElem?_drop]
    congr 1; omega
  · rw [if_neg (by omega), if_neg hk]
set_option maxHeartbeats 4000000 in
theorem bopen_any (a : Addr) (q p bb cb F : Nat) (s : FS) (w : World) (hE : ErrAt w a) (hf : Fl 84 w p bb cb s) (hok : s.Ok) (hp : Pa w q p (F : Nat) 2) (hi : In s.n.length (F : Nat) 2) (hq : q ∉ [p, bb, cb]) :
    Calls Tryz.prog 20 #[.pointer (some ⟨q, 0, none⟩)] w (BOpn F q p bb cb w s (s.bopen F)) := by
  have SZ := Box.mk (fun w h => size_any q p (F : Nat) 2 s.n.length w h hi)
  have RD := Box.mk (pread_any q p bb cb (F : Nat) 2 s 0 1024 w hf hok hp hi (by omega) (by omega))
  obtain ⟨R, hR⟩ : ∃ R, R = s.bopen F := ⟨_, rfl⟩
  rw [← hR]
  unfold FS.bopen at hR
  have HF := Box.mk hf; have HP := Box.mk hp; have HOK := Box.mk hok; have HI := Box.mk hi; have HQ := Box.mk hq; have HE := Box.mk hE
  cases hd : s.dead with
  | true => as_aux_lemma =>
    rw [if_pos hd] at hR
    have hrd : preadV s F 2 0 1024 = (⟨#[]⟩, 2) := by unfold preadV; rw [if_pos (by rw [inB_iff]; omega), hd, if_pos rfl]
    rw [hrd] at RD
    subst hR
    clear hd hrd hf hok hp hi hq hE
    go_enter Tryz.func20, Tryz.ntmps20
    go_wp2_with fail
    refine (SZ.out _ HP.out).mono ?_
    rintro e w1 ⟨rfl, rfl⟩
    go_wp2_with fail
    refine RD.out.mono ?_
    rintro e w1 ⟨rfl, rfl⟩
    go_wp2_with fail
    go_ret2
    exact ⟨Below.refl _ _, rfl⟩
  | false => as_aux_lemma =>
    rw [if_neg (by rw [hd]; decide)] at hR
    rw [bread_all hd hok hi] at RD
    obtain ⟨al, hal⟩ : ∃ al : ByteArray, al = ⟨((s.b.drop (512 * F)).take 1024).toArray⟩ := ⟨_, rfl⟩
    rw [← hal] at RD
    obtain ⟨hsz, hcut⟩ := bread_cut hok hi al hal
    have CUT := Box.mk hcut; have HR := Box.mk hR
    obtain ⟨g, hg⟩ : ∃ g, g = w.heap.size := ⟨_, rfl⟩
    have LT0 := hf.lt; have LT2 := hp.lt; have LE := hE.lt
    have GE := Box.mk (show 0 < w.heap.size from LE)
    obtain ⟨W2, hW2⟩ : ∃ W2, W2 = w.alloc (.cells #[.pointer (some ⟨q, 0, none⟩), .int .i64 0, .bool false, .int .i64 0, .int .i64 0, .int .i64 0, .int .i64 0, .int .i64 0, .bool false] 79) := ⟨_, rfl⟩
    have BW2 : Box (Below w.heap.size w W2 ∧ Bt W2 g q (s.bscan F 0)) := ⟨by rw [hW2]; exact ⟨(Below.refl _ _).alloc (Nat.le_refl _) _, ⟨by rw [hg]; exact heap_alloc_new _ _⟩⟩⟩
    have AP := Box.mk (show Bap g q p bb cb ∧ w.heap.size ≤ g from ⟨⟨by simp only [List.mem_cons, List.not_mem_nil, or_false, not_or] at hq ⊢; omega, by simp only [List.mem_cons, List.not_mem_nil, or_false, not_or]; omega⟩, by omega⟩)
    clear hd hf hok hp hi hq hE hal hcut hR LT0 LT2 LE
    go_enter Tryz.func20, Tryz.ntmps20
    go_wp2_with fail
    refine (SZ.out _ HP.out).mono ?_
    rintro e w1 ⟨rfl, rfl⟩
    go_wp2_with fail
    refine RD.out.mono ?_
    rintro e w1 ⟨rfl, rfl⟩
    go_wp2_with fail
    rw [← hW2, ← hg]
    clear hW2 hg SZ RD
    go_loopw [25] (fun i wr => ∃ j : Nat, j ≤ 16 ∧ i = .int .i64 (j : Int) ∧ Below w.heap.size w wr ∧ Bt wr g q (s.bscan F j)) (fun i _ => 16 - (intOf i).toNat)
    case atStart => exact ⟨0, by omega, rfl, BW2.out⟩
    case round =>
      clear BW2
      obtain ⟨j, hj, rfl, hb, ht⟩ := hrel
      have HB := Box.mk hb; have HT := Box.mk ht
      clear hb ht
      by_cases hlt : j < 16
      · have hltI : (j : Int) < 16 := by omega
        obtain ⟨A, hA⟩ : ∃ A, A = 64 * j := ⟨_, rfl⟩
        obtain ⟨Z, hZ⟩ : ∃ Z, Z = 64 * j + 64 := ⟨_, rfl⟩
        have hAZ : (A : Int) ≤ (Z : Int) := by omega
        have hZI : (Z : Int) ≤ 1024 := by omega
        have hw0 : IntKind.i64.wrap ((j : Int) * 64) = (A : Int) := by rw [IntKind.wrap_i64]; omega
        have hw1 : IntKind.i64.wrap ((j : Int) + 1) = (j : Int) + 1 := by rw [IntKind.wrap_i64]; omega
        have hw2 : IntKind.i64.wrap (((j : Int) + 1) * 64) = (Z : Int) := by rw [IntKind.wrap_i64]; omega
        obtain ⟨hsz1, hpg⟩ := CUT.out j hlt
        have EK := Box.mk (fun (w1 : World) (h : Upd [] wr w1) => (show ErrAt w1 a from (HE.out.below (HB.out) GE.out).below (Upd.belowN h) (Nat.lt_of_lt_of_le GE.out HB.out.size)))
        rw [← hZ, ← hA] at hsz1 hpg
        have PR := Box.mk (fun (w1 : World) (h : ErrAt w1 a) => bparse_any a (al.extract A Z) hsz1 w1 h)
        rw [hpg] at PR
        unfold prsB at PR
        have HS := Box.mk (show s.bscan F (j + 1) = if cntB (s.pg F 0 j) = true ∧ (s.bscan F j).seq < numB (s.pg F 0 j) then ⟨readB (s.pg F 0 j), numB (s.pg F 0 j), j / 8, false⟩ else s.bscan F j from rfl)
        have TDD := Box.mk (bscan_dead s F j)
        have LTJ := Box.mk hlt
        clear hsz1 hpg hlt hA hZ
        generalize s.pg F 0 j = P at PR HS
        obtain ⟨T1, hT1⟩ : ∃ T1, T1 = s.bscan F (j + 1) := ⟨_, rfl⟩
        have HT1 := Box.mk hT1
        rw [← hT1] at HS
        clear hT1
        generalize s.bscan F j = T0 at HT HS TDD
        go_upto_region 10 with (fail)
        cases hc : cntB P with
        | false => as_aux_lemma =>
          rw [hc] at PR
          simp only [Bool.false_eq_true, if_false] at PR
          have HX : Box (T1 = T0) := ⟨by rw [HS.out, if_neg]; rw [hc]; simp⟩
          clear hc HS
          refine wp_region_seq 15 [.flo, .flo, .flo, .flo, .flo, .flo, .flo, .cha, .flo, .flo, .flo, .flo, .new (.cells (brC BR.zero) 24 (0, 0)), .cha, .flo] (by rfl) rfl (by decide) ?_
          simp only [List.take, List.zip, List.zipWith]
          try go_frame
          refine gm_move (.tmp 4) (.inl rfl) (.string al) rfl ?_
          try go_frame
          refine gm_move (.tmp 7) (.inl rfl) (.int .i64 (j : Int)) rfl ?_
          try go_frame
          refine gm_flo (.int .i64 (A : Int)) (fun w1 hw1 => ?_) ?_
          case refine_1 =>
            go_simp
          try go_frame
          refine gm_move (.tmp 7) (.inl rfl) (.int .i64 (j : Int)) rfl ?_
          try go_frame
          refine gm_flo (.int .i64 ((j : Int) + 1)) (fun w1 hw1 => ?_) ?_
          case refine_1 =>
            go_simp
          try go_frame
          refine gm_flo (.int .i64 (Z : Int)) (fun w1 hw1 => ?_) ?_
          case refine_1 =>
            go_simp
          try go_frame
          refine gm_flo (.string (al.extract A Z)) (fun w1 hw1 => ?_) ?_
          case refine_1 =>
            go_simp
          try go_frame
          refine gm_call [.string (al.extract A Z)] (by kernel_rfl) rfl rfl Stb.tt (fun w1 hw1 hF1 => (PR.out w1 (EK.out w1 hw1.upd)).mono ?_)
          rintro e w2 ⟨rfl, hb⟩
          refine ⟨_, rfl, hb, ?_⟩
          clear hw1 hF1 hb w1 w2
          try go_frame
          refine gm_move (.tmp 36) (.inl rfl) (.tuple #[brV BR.zero, .int .i64 0, .iface 152 (.pointer (some a))]) rfl ?_
          try go_frame
          refine gm_extract (vs := #[brV BR.zero, .int .i64 0, .iface 152 (.pointer (some a))]) (.tmp 28) 0 rfl rfl (brV BR.zero) rfl ?_
          try go_frame
          refine gm_extract (vs := #[brV BR.zero, .int .i64 0, .iface 152 (.pointer (some a))]) (.tmp 28) 1 rfl rfl (.int .i64 0) rfl ?_
          try go_frame
          refine gm_extract (vs := #[brV BR.zero, .int .i64 0, .iface 152 (.pointer (some a))]) (.tmp 28) 2 rfl rfl (.iface 152 (.pointer (some a))) rfl ?_
          try go_frame
          refine gm_alloc rfl (.cells (brC BR.zero) 24) (fun _ => by kernel_rfl) (fun b hb hn => ?_)
          try go_frame
          refine gm_storeN (.tmp 8) (.tmp 37) rfl b (brC BR.zero) (brC BR.zero) 24 rfl rfl (by simp) rfl (by kernel_rfl) rfl (brC_one _) (fun _ => True) (fun _ h => ⟨trivial, h.2⟩) Stb.tt (fun _ _ => trivial) ?_
          try go_frame
          refine gm_move (.tmp 38) (.inr rfl) (.int .i64 0) rfl ?_
          try go_frame
          refine gm_nil ?_
          intro w9 hw9 hF9
          simp only [List.drop]
          try go_frame
          have B9 := Box.mk hw9.upd
          have HBW := Box.mk (show wr.heap.size ≤ b from hb)
          have HR9 := Box.mk hF9.2
          clear hw9 hF9 hb hn
          have IS := Box.mk (is_same a)
          have hE9 : w9.cell? ⟨0, 0, none⟩ = some (.iface 152 (.pointer (some a))) := EK.out w9 B9.out
          go_wp2_with fail
          refine (IS.out _).mono ?_
          rintro e w2 ⟨rfl, rfl⟩
          go_wp2_with fail
          exact ⟨⟨j + 1, LTJ.out, by go_num, HB.out.trans ((Upd.belowN B9.out).mono HB.out.size), by rw [← HT1.out, HX.out]; exact HT.out.upd B9.out (by simp)⟩, by have := LTJ.out; simp [intOf]; omega⟩
        | true => as_aux_lemma =>
          rw [hc] at PR
          simp only [if_true] at PR
          obtain ⟨N, hN⟩ : ∃ N, N = numB P := ⟨_, rfl⟩
          rw [← hN] at PR HS
          obtain ⟨r, hr⟩ : ∃ r, r = readB P := ⟨_, rfl⟩
          rw [← hr] at PR HS
          clear hN hr
          refine wp_region_seq 15 [.flo, .flo, .flo, .flo, .flo, .flo, .flo, .cha, .flo, .flo, .flo, .flo, .new (.cells (brC BR.zero) 24 (0, 0)), .cha, .flo] (by rfl) rfl (by decide) ?_
          simp only [List.take, List.zip, List.zipWith]
          try go_frame
          refine gm_move (.tmp 4) (.inl rfl) (.string al) rfl ?_
          try go_frame
          refine gm_move (.tmp 7) (.inl rfl) (.int .i64 (j : Int)) rfl ?_
          try go_frame
          refine gm_flo (.int .i64 (A : Int)) (fun w1 hw1 => ?_) ?_
          case refine_1 =>
            go_simp
          try go_frame
          refine gm_move (.tmp 7) (.inl rfl) (.int .i64 (j : Int)) rfl ?_
          try go_frame
          refine gm_flo (.int .i64 ((j : Int) + 1)) (fun w1 hw1 => ?_) ?_
          case refine_1 =>
            go_simp
          try go_frame
          refine gm_flo (.int .i64 (Z : Int)) (fun w1 hw1 => ?_) ?_
          case refine_1 =>
            go_simp
          try go_frame
          refine gm_flo (.string (al.extract A Z)) (fun w1 hw1 => ?_) ?_
          case refine_1 =>
            go_simp
          try go_frame
          refine gm_call [.string (al.extract A Z)] (by kernel_rfl) rfl rfl Stb.tt (fun w1 hw1 hF1 => (PR.out w1 (EK.out w1 hw1.upd)).mono ?_)
          rintro e w2 ⟨rfl, hb⟩
          refine ⟨_, rfl, hb, ?_⟩
          clear hw1 hF1 hb w1 w2
          try go_frame
          refine gm_move (.tmp 36) (.inl rfl) (.tuple #[brV r, .int .i64 (N : Int), .nilIface]) rfl ?_
          try go_frame
          refine gm_extract (vs := #[brV r, .int .i64 (N : Int), .nilIface]) (.tmp 28) 0 rfl rfl (brV r) rfl ?_
          try go_frame
          refine gm_extract (vs := #[brV r, .int .i64 (N : Int), .nilIface]) (.tmp 28) 1 rfl rfl (.int .i64 (N : Int)) rfl ?_
          try go_frame
          refine gm_extract (vs := #[brV r, .int .i64 (N : Int), .nilIface]) (.tmp 28) 2 rfl rfl (.nilIface) rfl ?_
          try go_frame
          refine gm_alloc rfl (.cells (brC BR.zero) 24) (fun _ => by kernel_rfl) (fun b hb hn => ?_)
          try go_frame
          refine gm_storeN (.tmp 8) (.tmp 37) rfl b (brC BR.zero) (brC r) 24 rfl rfl (by simp) rfl (by kernel_rfl) rfl (brC_one _) (fun _ => True) (fun _ h => ⟨trivial, h.2⟩) Stb.tt (fun _ _ => trivial) ?_
          try go_frame
          refine gm_move (.tmp 38) (.inr rfl) (.int .i64 (N : Int)) rfl ?_
          try go_frame
          refine gm_nil ?_
          intro w9 hw9 hF9
          simp only [List.drop]
          try go_frame
          have B9 := Box.mk hw9.upd
          have HBW := Box.mk (show wr.heap.size ≤ b from hb)
          have HR9 := Box.mk hF9.2
          clear hw9 hF9 hb hn
          have IS := Box.mk (is_nil a)
          have hE9 : w9.cell? ⟨0, 0, none⟩ = some (.iface 152 (.pointer (some a))) := EK.out w9 B9.out
          have HT9 := Box.mk (HT.out.upd B9.out (by simp))
          have c6 := HT9.out.cells.2.2.2.2.2.2.1
          go_wp2_with fail
          refine (IS.out _).mono ?_
          rintro e w2 ⟨rfl, rfl⟩
          by_cases hle : N ≤ T0.seq
          · have hleI : decide (N ≤ T0.seq) = true := by rw [decide_eq_true_iff]; exact hle
            have HX : Box (T1 = T0) := ⟨by rw [HS.out, if_neg]; intro h; omega⟩
            clear hle HS hc
            go_wp2_with fail
            exact ⟨⟨j + 1, LTJ.out, by go_num, HB.out.trans ((Upd.belowN B9.out).mono HB.out.size), by rw [← HT1.out, HX.out]; exact HT9.out⟩, by have := LTJ.out; simp [intOf]; omega⟩
          · have hleI : decide (N ≤ T0.seq) = false := by rw [decide_eq_false_iff_not]; exact hle
            have HX : Box (T1 = ⟨r, N, j / 8, T0.dead⟩) := ⟨by rw [HS.out, if_pos ⟨hc, by omega⟩, TDD.out]⟩
            clear hle HS hc
            obtain ⟨⟨k0, k1, k2, k3, k4⟩, _⟩ := boot_cells HR9.out
            obtain ⟨d, hd⟩ : ∃ d, d = j / 8 := ⟨_, rfl⟩
            have hdiv : (j : Int) / 8 = (d : Int) := by omega
            have hdw : IntKind.i64.wrap (d : Int) = (d : Int) := by rw [IntKind.wrap_i64]; omega
            rw [← hd] at HX
            have BB := Box.mk (HB.out.trans ((Upd.belowN B9.out).mono HB.out.size))
            have HR9b := Box.mk HR9.out
            clear hd hw0 hw2 hAZ hZI hE9 PR IS EK HB HT B9 HR9 HBW hltI k0 k1 k2 k3 k4
            go_upto_region 12 with (fail)
            have RB := Box.mk (show w2.heap[b]? = _ from HR9b.out)
            refine wp_region_seq 7 [.flo, .flo, .flo, .flo, .flo, .flo, .flo] (by rfl) rfl (by decide) ?_
            simp only [List.take, List.zip, List.zipWith]
            try go_frame
            refine gm_move (.tmp 6) (.inl rfl) (.pointer (some ⟨g, 0, none⟩)) rfl ?_
            try go_frame
            refine gm_move (.tmp 6) (.inl rfl) (.pointer (some ⟨g, 0, none⟩)) rfl ?_
            try go_frame
            refine gm_move (.tmp 6) (.inl rfl) (.pointer (some ⟨g, 0, none⟩)) rfl ?_
            try go_frame
            refine gm_loadS (.tmp 8) rfl b (brC r) 24 (0, 0) _ RB.out (by simp) rfl Tryz.underlying24 rfl (by kernel_rfl) ?_
            try go_frame
            refine gm_move (.tmp 9) (.inl rfl) (.int .i64 (N : Int)) rfl ?_
            try go_frame
            refine gm_move (.tmp 7) (.inl rfl) (.int .i64 (j : Int)) rfl ?_
            try go_frame
            refine gm_flo (.int .i64 (d : Int)) (fun w1 hw1 => ?_) ?_
            case refine_1 =>
              go_simp
            try go_frame
            refine gm_nil ?_
            intro w9 hw9 hF9
            simp only [List.drop]
            try go_frame
            have HTT := Box.mk (HT9.out.upd hw9.upd (by simp))
            have hg := AP.out.2
            have H9w := Box.mk (hw9.upd)
            have HTH : w9.there g 1 (brC r).size := fun i hi => ⟨by
              rw [cell_of_row _ _ _ _ _ _ HTT.out.row]
              simp only [brC, List.size_toArray, List.length_cons, List.length_nil] at hi
              match i, hi with
              | 0, _ => rfl
              | 1, _ => rfl
              | 2, _ => rfl
              | 3, _ => rfl
              | 4, _ => rfl, HTT.out.free _⟩
            have hst0 := run_storeCells_cells (P := Tryz.prog) g 1 (brC r).toList 0 w9 (fun i hi => by simpa using (HTH i (by simpa using hi)).1) (fun i hi => by simpa using (HTH i (by simpa using hi)).2) (fun v hv => (Array.all_eq_true_iff_forall_mem.1 (brC_one r)) v (by simpa using hv))
            obtain ⟨W5, hW5⟩ : ∃ W5, W5 = w9.setCells g 1 (brC r).toList := ⟨_, rfl⟩
            have hst : (storeCells ⟨g, 1, none⟩ (brC r).toList).run Tryz.prog w9 = .ok () W5 := by rw [hW5]; exact hst0
            have f6 : W5.frozen? ⟨g, 6, none⟩ = false := by rw [hW5, World.frozen?_setCells]; exact HTT.out.free _
            have f7 : W5.frozen? ⟨g, 7, none⟩ = false := by rw [hW5, World.frozen?_setCells]; exact HTT.out.free _
            have c6 : W5.cell? ⟨g, 6, none⟩ = some (.int .i64 (T0.seq : Int)) := by rw [hW5, World.cell?_setCells_out _ _ _ _ _ (fun _ _ => .inr (by simp [brC]))]; exact HTT.out.cells.2.2.2.2.2.2.1
            have c7 : W5.cell? ⟨g, 7, none⟩ = some (.int .i64 (T0.block : Int)) := by rw [hW5, World.cell?_setCells_out _ _ _ _ _ (fun _ _ => .inr (by simp [brC]))]; exact HTT.out.cells.2.2.2.2.2.2.2.1
            have HW5 := Box.mk hW5
            clear hW5 hst0 HTH
            clear hw9 hF9 HT9 RB HR9b hdiv hdw hg HR CUT HF HP HOK HI HQ HE GE TDD
            go_wp2_with fail
            have hg := AP.out.2
            have FIN : Box (Below w.heap.size w ((W5.setCell ⟨g, 6, none⟩ (.int .i64 (N : Int))).setCell ⟨g, 7, none⟩ (.int .i64 (d : Int))) ∧ Bt ((W5.setCell ⟨g, 6, none⟩ (.int .i64 (N : Int))).setCell ⟨g, 7, none⟩ (.int .i64 (d : Int))) g q ⟨r, N, d, T0.dead⟩) := ⟨by
              rw [HW5.out]
              have h0 := BB.out.trans ((Upd.belowN H9w.out).mono BB.out.size)
              exact ⟨((((((h0.setCell hg _).setCell hg _).setCell hg _).setCell hg _).setCell hg _).setCell hg _).setCell hg _, HTT.out.setRec r N d⟩⟩
            exact ⟨⟨j + 1, LTJ.out, by rw [Int.natCast_add, Int.natCast_one], FIN.out.1, by rw [← HT1.out, HX.out]; exact FIN.out.2⟩, by have := LTJ.out; simp [intOf]; omega⟩
      · have hltI : ¬ (j : Int) < 16 := by omega
        obtain rfl : j = 16 := by omega
        have HTF := Box.mk (show BtS wr F g q p bb cb s (s.bscan F 16) from ⟨AP.out.1, HF.out.upd (Upd.of_below (S := []) HB.out) (by simp) (by simp) (by simp), HOK.out, HP.out.upd (Upd.of_below (S := []) HB.out) (by simp), HI.out, HT.out⟩)
        have c6 := HT.out.cells.2.2.2.2.2.2.1
        generalize s.bscan F 16 = T0 at HTF HR c6
        clear HT hlt
        by_cases h0 : T0.seq = 0
        · have h0I : (((T0.seq : Nat) : Int) == 0) = true := by rw [beq_iff_eq]; omega
          have hR := HR.out
          rw [if_pos h0] at hR
          subst hR
          clear h0 HR
          go_wp2_with fail
          go_ret2
          exact ⟨HB.out, rfl⟩
        · have h0I : (((T0.seq : Nat) : Int) == 0) = false := by rw [beq_eq_false_iff_ne]; omega
          have hR := HR.out
          rw [if_neg h0] at hR
          by_cases h1 : 140737488355328 < T0.seq
          · have h1I : decide ((140737488355328 : Int) < (T0.seq : Int)) = true := by rw [decide_eq_true_iff]; omega
            rw [if_pos h1] at hR
            subst hR
            clear h0 h1 HR
            go_wp2_with fail
            go_ret2
            exact ⟨HB.out, rfl⟩
          · have h1I : decide ((140737488355328 : Int) < (T0.seq : Int)) = false := by rw [decide_eq_false_iff_not]; omega
            rw [if_neg h1] at hR
            subst hR
            clear h0 h1 HR
            go_wp2_with fail
            go_ret2
            exact ⟨HB.out, g, rfl, HTF.out, AP.out.2⟩
end Go.Proofs.YtgcbmjflodgnbaaGreatDoor
namespace Go.Proofs.YtgcbmjflodgnbaaGreatDoor
set_option maxRecDepth 100000
set_option linter.unusedVariables false
open Go Go.RowKit

theorem told_zero (l : LS) : l.told 0 = l := by unfold LS.told; simp
theorem lcleans_l (s : FS) (F B : Int) (l : LS) : ∀ k, (FS.lcleans s F B l k).2.2 = 0 → (FS.lcleans s F B l k).2.1 = l
  | 0, _ => rfl
  | k + 1, h => by
    rw [FS.lcleans] at h ⊢
    by_cases h1 : (FS.lcleans s F B l k).2.2 ≠ 0
    · rw [if_pos h1] at h; exact absurd h h1
    · rw [if_neg h1] at h ⊢
      have hl := lcleans_l s F B l k (Classical.byContradiction h1)
      unfold FS.lclean at h ⊢
      dsimp only at h ⊢
      rw [h, hl, told_zero]
/-- What the document's Format leaves. -/
def RFmt (p bb cb : Nat) (w : World) (x : Int) (e : Ending) (w' : World) : Prop :=
  Upd [p, bb, cb] w w' ∧ ((x ≠ 0 ∧ e = .returned (.tuple #[.pointer none, .int .i64 x])) ∨ (x = 0 ∧ ∃ g, e = .returned (.tuple #[.pointer (some ⟨g, 0, none⟩), .int .i64 0])))
end Go.Proofs.YtgcbmjflodgnbaaGreatDoor
namespace Go.Proofs.YtgcbmjflodgnbaaGreatDoor
set_option maxRecDepth 100000
set_option linter.unusedVariables false
open Go Go.RowKit

/-- How many blocks the laws' part has. -/
def bN (b : Int) : Nat := (max 1 (min b 12)).toNat
theorem bN_bd (b : Int) : 1 ≤ bN b ∧ bN b ≤ 12 := by unfold bN; omega
/-- A clean flash of the laws. -/
def bfs (n : Nat) : FS := FS.new (List.replicate (512 * n) 255)
theorem bfs_n (n : Nat) : (bfs n).n.length = n := by unfold bfs FS.new; simp
theorem bfs_ok {n : Nat} (h : 1 ≤ n ∧ n ≤ 256) : (bfs n).Ok := FS.new_ok (by unfold sizeB; rw [decide_eq_true_iff, List.length_replicate]; omega)
theorem bfs_still (n : Nat) : (bfs n).Still := FS.new_still _
theorem bfs_at (n k : Nat) (h : k < 512 * n) : (bfs n).b[k]? = some 255 := by unfold bfs FS.new; simp [h]
end Go.Proofs.YtgcbmjflodgnbaaGreatDoor
namespace Go.Proofs.YtgcbmjflodgnbaaGreatDoor
set_option maxRecDepth 100000
set_option linter.unusedVariables false
open Go Go.RowKit

theorem two_any (p bb cb : Nat) (s : FS) (w : World) (hf : Fl 84 w p bb cb s) (hn : s.n.length = 3) : Calls Tryz.prog 18 #[.pointer (some ⟨p, 0, none⟩)] w fun e w' => ∃ q, e = .returned (.pointer (some ⟨q, 0, none⟩)) ∧ Pa w' q p (1 : Nat) 2 ∧ w.heap.size ≤ q ∧ Below w.heap.size w w' := by
  have hi : In s.n.length 1 2 := by rw [hn]; exact ⟨by omega, by omega, by omega, by omega⟩
  have PN := Box.mk (pnew_yes p bb cb 1 2 s w hf hi)
  clear hf hn hi
  go_enter Tryz.func18, Tryz.ntmps18
  go_wp2_with fail
  refine PN.out.mono ?_
  rintro e w2 ⟨q, rfl, hp, hq, hb⟩
  have P2 := Box.mk hp; have B2 := Box.mk hb; have Q2 := Box.mk hq
  clear hp hq hb
  go_wp2_with fail
  go_ret
  exact ⟨q, rfl, P2.out, Q2.out, B2.out⟩
theorem BtS.far {w w' : World} {F g q p bb cb : Nat} {s : FS} {t : BS} {S : List Nat} (h : BtS w F g q p bb cb s t) (hu : Upd S w w') (h1 : g ∉ S) (h2 : q ∉ S) (h3 : p ∉ S) (h4 : bb ∉ S) (h5 : cb ∉ S) : BtS w' F g q p bb cb s t :=
  ⟨h.ap, h.f.upd hu h3 h4 h5, h.ok, h.pa.upd hu h2, h.i, h.bt.upd hu h1⟩
theorem RBtS.far {w w' : World} {F g q p bb cb : Nat} {s : FS} {t : BS} {S : List Nat} (h : RBtS w F g q p bb cb s t) (hu : Upd S w w') (h1 : g ∉ S) (h2 : q ∉ S) (h3 : p ∉ S) (h4 : bb ∉ S) (h5 : cb ∉ S) : RBtS w' F g q p bb cb s t :=
  ⟨h.ap, h.f.upd hu h3 h4 h5, h.ok, h.pa.upd hu h2, h.i, h.bt.upd hu h1⟩
/-- Which blocks laid made: all of this call's own, the document's apart from the program's. -/
structure LaidN (B q p bb cb q' p' bb' cb' : Nat) : Prop where
  lo : ∀ k, k ∈ [q, p, bb, cb] → B ≤ k
  lo' : ∀ k, k ∈ [q', p', bb', cb'] → B ≤ k
  hq : q ∉ [p, bb, cb]
  hq' : q' ∉ [p', bb', cb']
  ap : ∀ k ∈ [q', p', bb', cb'], k ∉ [q, p, bb, cb]
/-- What laid leaves. -/
def LaidB (w : World) (r : FS × BS × Int) (e : Ending) (w' : World) : Prop :=
  ∃ q p bb cb q' p' bb' cb' : Nat, ∃ kv lv : Value, e = .returned (.tuple #[.pointer (some ⟨p, 0, none⟩), lv, .pointer (some ⟨p', 0, none⟩), kv, .bool true]) ∧ Below w.heap.size w w' ∧ LaidN w.heap.size q p bb cb q' p' bb' cb' ∧
    Fl 84 w' p bb cb r.1 ∧ Fl 73 w' p' bb' cb' r.1 ∧ r.1.Ok ∧
    ((r.2.2 ≠ 0 ∧ lv = .pointer none ∧ kv = .pointer none) ∨ (r.2.2 = 0 ∧ ∃ g g', lv = .pointer (some ⟨g, 0, none⟩) ∧ kv = .pointer (some ⟨g', 0, none⟩) ∧ BtS w' 1 g q p bb cb r.1 r.2.1 ∧ RBtS w' 1 g' q' p' bb' cb' r.1 r.2.1 ∧ w.heap.size ≤ g ∧ w.heap.size ≤ g' ∧ g ∉ [q', p', bb', cb'] ∧ g' ∉ [g, q, p, bb, cb]))
set_option maxHeartbeats 4000000 in
theorem laidb_any (r : BR) (w : World) : Calls Tryz.prog 11 #[brV r] w (LaidB w ((bfs 3).bformat 1 r)) := by
  have hsz : sizeN 3 = true := by unfold sizeN; rw [decide_eq_true_iff]; omega
  have NW := Box.mk (fun w => new_yes 3 w hsz)
  have RW := Box.mk (fun w => rnew_yes 3 w hsz)
  have hn : (bfs 3).n.length = 3 := bfs_n 3
  have hi : In (bfs 3).n.length ((1 : Nat) : Int) 2 := by rw [hn]; exact ⟨by omega, by omega, by omega, by omega⟩
  have hok : (bfs 3).Ok := bfs_ok (by omega)
  have OV := Box.mk (fun p bb cb w h => two_any p bb cb (bfs 3) w h hn)
  have RP := Box.mk (fun p bb cb w h => rpnew_yes p bb cb 1 2 (bfs 3) w h hi)
  have FM := Box.mk (fun q p bb cb w h hp hq => bformat_any q p bb cb 1 (bfs 3) r w h hok hp hi hq)
  have RF := Box.mk (fun q p bb cb w h hp hq => rbformat_any q p bb cb 1 (bfs 3) r w h hok hp hi hq)
  unfold Made at NW RW
  change Box (∀ w, Calls _ _ _ w fun e w' => ∃ p bb cb, _ ∧ Fl 84 w' p bb cb (bfs 3) ∧ _) at NW
  change Box (∀ w, Calls _ _ _ w fun e w' => ∃ p bb cb, _ ∧ Fl 73 w' p bb cb (bfs 3) ∧ _) at RW
  rw [show ((3 : Nat) : Int) = 3 from rfl] at NW RW
  generalize (bfs 3).bformat 1 r = R at FM RF ⊢
  obtain ⟨r1, r2, r3⟩ := R
  generalize bfs 3 = F0 at NW RW RP FM RF OV
  clear hsz hi hok hn
  obtain ⟨z, hz⟩ : ∃ z, z = w.heap.size := ⟨_, rfl⟩
  obtain ⟨W1, hW1⟩ : ∃ W, W = w.alloc (.cells (brC r) 24) := ⟨_, rfl⟩
  have Z1 := Box.mk (show W1.heap[z]? = some (.cells (brC r) 24 (0, 0)) by rw [hW1, hz]; exact heap_alloc_new _ _)
  have B1 := Box.mk (show Below w.heap.size w W1 by rw [hW1]; exact (Below.refl _ _).alloc (Nat.le_refl _) _)
  unfold brV
  go_enter Tryz.func11, Tryz.ntmps11
  go_upto_region 1 with (fail)
  rw [← hW1, ← hz]
  clear hz hW1
  go_wp2_with fail
  refine (NW.out _).mono ?_
  rintro e w2 ⟨p, bb, cb, rfl, hf, hp, hbb, hcb, hb⟩
  have F2 := Box.mk hf; have B2 := Box.mk (B1.out.trans (hb.mono B1.out.size)); have L2 : Box (w.heap.size ≤ p ∧ w.heap.size ≤ bb ∧ w.heap.size ≤ cb) := ⟨by have := B1.out.size; omega⟩
  have Z2 := Box.mk ((hb.block z (Array.getElem?_eq_some_iff.1 Z1.out).1).trans Z1.out)
  have NZ : Box (z ∉ [p, bb, cb]) := ⟨by have := (Array.getElem?_eq_some_iff.1 Z1.out).1; simp only [List.mem_cons, List.not_mem_nil, or_false, not_or]; omega⟩
  clear hf hp hbb hcb hb Z1 B1 NW
  go_wp2_with fail
  refine (RW.out _).mono ?_
  rintro e w3 ⟨p', bb', cb', rfl, hf, hp, hbb, hcb, hb⟩
  have hl2 := F2.out.lt; have hz2 := B2.out.size
  have F3 := Box.mk (F2.out.upd (Upd.of_below (S := []) hb) (by simp) (by simp) (by simp)); have G3 := Box.mk hf; have B3 := Box.mk (B2.out.trans (hb.mono B2.out.size))
  have N3 : Box ((p < p' ∧ p < bb' ∧ p < cb') ∧ (bb < p' ∧ bb < bb' ∧ bb < cb') ∧ (cb < p' ∧ cb < bb' ∧ cb < cb')) := ⟨by omega⟩
  have L3 : Box (w.heap.size ≤ p' ∧ w.heap.size ≤ bb' ∧ w.heap.size ≤ cb') := ⟨by omega⟩
  have Z3 := Box.mk ((hb.block z (Array.getElem?_eq_some_iff.1 Z2.out).1).trans Z2.out)
  clear hf hp hbb hcb hb Z2 B2 F2 RW hl2 hz2
  go_wp2_with fail
  refine (OV.out p bb cb _ F3.out).mono ?_
  rintro e w4 ⟨q, rfl, hp, hq, hb⟩
  have hl3 := F3.out.lt; have hl4 := G3.out.lt
  have F4 := Box.mk (F3.out.upd (Upd.of_below (S := []) hb) (by simp) (by simp) (by simp)); have G4 := Box.mk (G3.out.upd (Upd.of_below (S := []) hb) (by simp) (by simp) (by simp)); have P4 := Box.mk hp; have B4 := Box.mk (B3.out.trans (hb.mono B3.out.size))
  have N4 : Box (q ∉ [p, bb, cb] ∧ p' < q ∧ bb' < q ∧ cb' < q ∧ w.heap.size ≤ q) := ⟨by have := B3.out.size; simp only [List.mem_cons, List.not_mem_nil, or_false, not_or]; omega⟩
  have Z4 := Box.mk ((hb.block z (Array.getElem?_eq_some_iff.1 Z3.out).1).trans Z3.out)
  clear hp hq hb Z3 B3 F3 G3 OV hl3 hl4
  go_wp2_with fail
  refine (RP.out p' bb' cb' _ G4.out).mono ?_
  rintro e w5 ⟨q', rfl, hp, hq, hb⟩
  have hl4 := G4.out.lt
  have F5 := Box.mk (F4.out.upd (Upd.of_below (S := []) hb) (by simp) (by simp) (by simp)); have G5 := Box.mk (G4.out.upd (Upd.of_below (S := []) hb) (by simp) (by simp) (by simp)); have P5 := Box.mk (P4.out.upd (Upd.of_below (S := []) hb) (by simp)); have RP5 := Box.mk hp; have B5 := Box.mk (B4.out.trans (hb.mono B4.out.size))
  have N5 : Box (q' ∉ [p', bb', cb'] ∧ w.heap.size ≤ q') := ⟨by have := B4.out.size; simp only [List.mem_cons, List.not_mem_nil, or_false, not_or]; omega⟩
  have N6 : Box (∀ k ∈ [q', p', bb', cb'], k ∉ [q, p, bb, cb]) := ⟨by
    have h3 := N3.out; have h4 := N4.out; have h5 := F4.out.lt; have h6 := P4.out.lt
    intro k hk
    simp only [List.mem_cons, List.not_mem_nil, or_false, not_or] at hk ⊢; omega⟩
  have NN := Box.mk (show LaidN w.heap.size q p bb cb q' p' bb' cb' from ⟨by have h2 := L2.out; have h4 := N4.out; intro k hk; simp only [List.mem_cons, List.not_mem_nil, or_false] at hk; omega, by have h2 := L3.out; have h4 := N5.out; intro k hk; simp only [List.mem_cons, List.not_mem_nil, or_false] at hk; omega, N4.out.1, N5.out.1, N6.out⟩)
  have Z5 := Box.mk ((hb.block z (Array.getElem?_eq_some_iff.1 Z4.out).1).trans Z4.out)
  clear hp hq hb Z4 B4 F4 G4 P4 RP hl4
  obtain ⟨⟨k0, k1, k2, k3, k4⟩, _⟩ := boot_cells Z5.out
  go_wp2_with fail
  refine (FM.out q p bb cb _ F5.out P5.out N4.out.1).mono ?_
  rintro e w6 hfm
  unfold BFmt at hfm
  dsimp only at hfm
  obtain ⟨hf6, hok6, hu6, hcase⟩ := hfm
  have nm6 : ∀ k ∈ [q', p', bb', cb'], k ∉ [p, bb, cb] := fun k hk hm => N6.out k hk (List.mem_cons_of_mem _ hm)
  have F6 := Box.mk hf6; have OK6 := Box.mk hok6
  have G6 := Box.mk (G5.out.upd hu6 (nm6 _ (by simp)) (nm6 _ (by simp)) (nm6 _ (by simp))); have RP6 := Box.mk (RP5.out.upd hu6 (nm6 _ (by simp)))
  have U6 := Box.mk (show Below w.heap.size w w6 from Upd.below B5.out hu6 (fun i hi => by have := L2.out; simp only [List.mem_cons, List.not_mem_nil, or_false] at hi; omega) B5.out.size)
  have Z6 := Box.mk ((hu6.block z (Array.getElem?_eq_some_iff.1 Z5.out).1 NZ.out).trans Z5.out)
  have RFX := Box.mk (RF.out q' p' bb' cb' w6 G6.out RP6.out N5.out.1)
  have FAR : Box (∀ k ∈ [q, p, bb, cb], k ∉ [p', bb', cb']) := ⟨fun k hk hm => N6.out k (List.mem_cons_of_mem _ hm) hk⟩
  have G5L := Box.mk G5.out.lt; have W5L := Box.mk B5.out.size; have Q5L := Box.mk RP5.out.lt
  have W6L := Box.mk U6.out.size
  clear nm6 hu6 hf6 hok6 FM RF F5 G5 P5 RP5 B5 N4 N5 L2 k0 k1 k2 k3 k4 Z5
  obtain ⟨⟨k0, k1, k2, k3, k4⟩, _⟩ := boot_cells Z6.out
  rcases hcase with ⟨hr, rfl⟩ | ⟨hr, g, rfl, hl, hg⟩
  · have HR := Box.mk hr
    clear hr
    go_wp2_with fail
    refine RFX.out.mono ?_
    rintro e w7 hfm
    unfold RBFmt at hfm
    dsimp only at hfm
    obtain ⟨hf7, _, hu7, hc7⟩ := hfm
    rcases hc7 with ⟨hr7, rfl⟩ | ⟨hr7, _⟩
    · have F7 := Box.mk (F6.out.upd hu7 (FAR.out _ (by simp)) (FAR.out _ (by simp)) (FAR.out _ (by simp)))
      have G7 := Box.mk hf7
      have U7 := Box.mk (show Below w.heap.size w w7 from Upd.below U6.out hu7 (fun i hi => by have := L3.out; simp only [List.mem_cons, List.not_mem_nil, or_false] at hi; omega) U6.out.size)
      clear hu7 hr7 hf7 k0 k1 k2 k3 k4
      go_wp2_with fail
      refine bodyPost_ret (v := .tuple #[.pointer (some ⟨p, 0, none⟩), .pointer none, .pointer (some ⟨p', 0, none⟩), .pointer none, .bool true]) (by simp [results, Tryz.results11, go_sem]) rfl ?_
      exact ⟨q, p, bb, cb, q', p', bb', cb', _, _, rfl, U7.out, NN.out, F7.out, G7.out, OK6.out, .inl ⟨HR.out, rfl, rfl⟩⟩
    · exact absurd hr7 HR.out
  · have HR := Box.mk hr
    subst hr
    have HL := Box.mk hl; have HG := Box.mk hg
    clear hl hg
    go_wp2_with fail
    refine RFX.out.mono ?_
    rintro e w7 hfm
    unfold RBFmt at hfm
    dsimp only at hfm
    obtain ⟨hf7, _, hu7, hc7⟩ := hfm
    rcases hc7 with ⟨hr7, rfl⟩ | ⟨_, g', rfl, hl', hg'⟩
    · exact absurd rfl hr7
    · have F7 := Box.mk (F6.out.upd hu7 (FAR.out _ (by simp)) (FAR.out _ (by simp)) (FAR.out _ (by simp)))
      have G7 := Box.mk hf7
      have U7 := Box.mk (show Below w.heap.size w w7 from Upd.below U6.out hu7 (fun i hi => by have := L3.out; simp only [List.mem_cons, List.not_mem_nil, or_false] at hi; omega) U6.out.size)
      have far5 : g ∉ [q', p', bb', cb'] := fun hm => by
        have h1 := G5L.out; have h2 := Q5L.out; have h3 := HG.out
        simp only [List.mem_cons, List.not_mem_nil, or_false] at hm; omega
      have H7 := Box.mk (HL.out.far hu7 (fun h => far5 (List.mem_cons_of_mem _ h)) (FAR.out _ (by simp)) (FAR.out _ (by simp)) (FAR.out _ (by simp)) (FAR.out _ (by simp)))
      have HG' : Box (g' ∉ [g, q, p, bb, cb]) := ⟨by
        have h1 := HL.out.f.lt; have h2 := HL.out.pa.lt; have h3 := HL.out.bt.lt
        simp only [List.mem_cons, List.not_mem_nil, or_false, not_or]; omega⟩
      have HLR := Box.mk hl'
      have HGG := Box.mk (show w.heap.size ≤ g ∧ w.heap.size ≤ g' from ⟨Nat.le_trans W5L.out HG.out, Nat.le_trans W6L.out hg'⟩)
      have FF := Box.mk far5
      clear hu7 hl' hg' hf7 far5 k0 k1 k2 k3 k4
      go_wp2_with fail
      refine bodyPost_ret (v := .tuple #[.pointer (some ⟨p, 0, none⟩), .pointer (some ⟨g, 0, none⟩), .pointer (some ⟨p', 0, none⟩), .pointer (some ⟨g', 0, none⟩), .bool true]) (by simp [results, Tryz.results11, go_sem]) rfl ?_
      exact ⟨q, p, bb, cb, q', p', bb', cb', _, _, rfl, U7.out, NN.out, F7.out, G7.out, OK6.out, .inr ⟨rfl, g, g', rfl, rfl, H7.out, HLR.out, HGG.out.1, HGG.out.2, FF.out, HG'.out⟩⟩
end Go.Proofs.YtgcbmjflodgnbaaGreatDoor
namespace Go.Proofs.YtgcbmjflodgnbaaGreatDoor
set_option maxRecDepth 100000
set_option linter.unusedVariables false
open Go Go.RowKit

theorem bfs_er (n : Nat) : Er (bfs n).b 0 (512 * n) := fun k _ h => bfs_at n k (by omega)
/-- What Format makes of a clean flash. -/
theorem laid_fmt (r : BR) : (r.May → ∃ s', (bfs 3).bformat 1 r = (s', ⟨r, 1, 0, false⟩, 0) ∧ s'.Still ∧ BInv 1 s' ⟨r, 1, 0, false⟩ ∧ s'.n.length = 3) ∧ (¬ r.May → (bfs 3).bformat 1 r = (bfs 3, ⟨BR.zero, 0, 0, false⟩, 130)) := by
  have hi : In (bfs 3).n.length ((1 : Nat) : Int) 2 := by rw [bfs_n]; exact ⟨by omega, by omega, by omega, by omega⟩
  refine ⟨fun h => ?_, fun h => ?_⟩
  · obtain ⟨s', e, st, inv, _⟩ := bformat_out (bfs_still 3) (bfs_ok (by omega)) hi h
    refine ⟨s', e, st, inv, ?_⟩
    have := (FS.bformat_ok (s := bfs 3) (bfs_ok (by omega)) 1 r).2
    rw [e, bfs_n] at this; exact this
  · unfold FS.bformat
    rw [if_pos ((BR.may_no r).2 h)]
theorem eqk1 (w : World) : (Op.equalIn 10000 24 (.agg #[.int .i64 1, .bool true, .int .i64 1, .int .i64 0, .int .i64 0]) (.agg #[.int .i64 1, .bool true, .int .i64 1, .int .i64 0, .int .i64 0])).run Tryz.prog w = .ok true w := by kernel_rfl
theorem eqk2 (w : World) : (Op.equalIn 10000 24 (.agg #[.int .i64 0, .bool false, .int .i64 0, .int .i64 0, .int .i64 0]) (.agg #[.int .i64 0, .bool false, .int .i64 0, .int .i64 0, .int .i64 0])).run Tryz.prog w = .ok true w := by kernel_rfl
theorem eqk3 (w : World) : (Op.equalIn 10000 24 (.agg #[.int .i64 1, .bool false, .int .i64 3, .int .i64 0, .int .i64 0]) (.agg #[.int .i64 1, .bool false, .int .i64 3, .int .i64 0, .int .i64 0])).run Tryz.prog w = .ok true w := by kernel_rfl
theorem eqk4 (w : World) : (Op.equalIn 10000 24 (.agg #[.int .i64 1, .bool true, .int .i64 0, .int .i64 0, .int .i64 0]) (.agg #[.int .i64 1, .bool true, .int .i64 0, .int .i64 0, .int .i64 0])).run Tryz.prog w = .ok true w := by kernel_rfl
set_option maxHeartbeats 4000000 in
theorem bfixed_any (a : Addr) (w : World) (hE : ErrAt w a) : Calls Tryz.prog 9 #[] w fun e w' => e = .returned (.bool true) ∧ Below w.heap.size w w' := by
  have N1 := Box.mk (fun w => next_any ⟨1, true, 0, 0, 0⟩ w)
  have N2 := Box.mk (fun w => next_any ⟨1, true, 1, 0, 0⟩ w)
  have N3 := Box.mk (fun w => next_any ⟨1, false, 3, 0, 0⟩ w)
  have e1 : BR.next ⟨1, true, 0, 0, 0⟩ = (1, ⟨1, true, 1, 0, 0⟩) := by
    unfold BR.next; dsimp only
    rw [if_neg (by decide), if_pos (by decide), show wrap64 (0 + 1) = 1 by rw [IntWalk.wrap64_in] <;> omega]
  have e2 : BR.next ⟨1, true, 1, 0, 0⟩ = (0, ⟨0, false, 0, 0, 0⟩) := by
    unfold BR.next; dsimp only
    rw [if_neg (by decide), if_neg (by decide), show wrap64 (1 - 1) = 0 by rw [IntWalk.wrap64_in] <;> omega]
  have e3 : BR.next ⟨1, false, 3, 0, 0⟩ = (1, ⟨1, false, 3, 0, 0⟩) := by
    unfold BR.next; dsimp only; rw [if_pos rfl]
  rw [e1] at N1; rw [e2] at N2; rw [e3] at N3
  unfold brV brC at N1 N2 N3
  obtain ⟨s1, ef, st1, inv1, hn1⟩ := (laid_fmt ⟨0, false, 0, 5, 0⟩).1 ⟨.inl rfl, by decide, by decide, by decide⟩
  have LD := Box.mk (fun w => laidb_any ⟨0, false, 0, 5, 0⟩ w)
  rw [ef] at LD
  have hm : BR.May ⟨1, true, 0, 0, 0⟩ := ⟨.inr rfl, by decide, by decide, by decide⟩
  obtain ⟨o1, o2⟩ := bput_out inv1 hm (by show 1 + 1 < _; omega)
  have P1 := Box.mk (fun g q p bb cb w h => bput_any g q p bb cb 1 s1 ⟨⟨0, false, 0, 5, 0⟩, 1, 0, false⟩ ⟨1, true, 0, 0, 0⟩ w h (by show 0 < 2; omega) (by show 1 + 1 < _; omega))
  have hn2 := (FS.bput_ok inv1.by_.ok 1 ⟨⟨0, false, 0, 5, 0⟩, 1, 0, false⟩ ⟨1, true, 0, 0, 0⟩).2
  generalize s1.bput 1 ⟨⟨0, false, 0, 5, 0⟩, 1, 0, false⟩ ⟨1, true, 0, 0, 0⟩ = R at o1 o2 P1 hn2
  obtain ⟨s2, t2, x2⟩ := R
  dsimp only at o1 o2 P1 hn2
  obtain ⟨rfl, st2⟩ := o1 st1
  rcases o2 with ⟨_, hr2, hs2, inv2⟩ | ⟨h, _⟩
  · obtain ⟨r2, q2, b2, d2⟩ := t2
    dsimp only at hr2 hs2
    subst hr2 hs2
    have P2 := Box.mk (fun g q p bb cb w h => bput_any g q p bb cb 1 s2 ⟨⟨1, true, 0, 0, 0⟩, 2, b2, d2⟩ ⟨2, false, 0, 0, 0⟩ w h inv2.by_.b2 (by show 2 + 1 < _; omega))
    have ep : s2.bput 1 ⟨⟨1, true, 0, 0, 0⟩, 2, b2, d2⟩ ⟨2, false, 0, 0, 0⟩ = (s2, ⟨⟨1, true, 0, 0, 0⟩, 2, b2, d2⟩, 130) := by
      unfold FS.bput
      rw [if_pos ((BR.may_no _).2 (fun h => by have := h.slot; simp at this))]
    rw [ep] at P2
    have TW := Box.mk (fun p bb cb w h => two_any p bb cb s2 w h (hn2.trans hn1))
    have OP := Box.mk (fun q p bb cb w hE hf hp hq => bopen_any a q p bb cb 1 s2 w hE hf inv2.by_.ok hp inv2.by_.inn hq)
    rw [inv2.by_.open_ inv2.alive (by show 2 ≤ _; omega)] at OP
    have GE := Box.mk hE.lt
    have HE := Box.mk hE
    clear o1 st1 inv1 hn1 hm hn2 st2 inv2 e1 e2 e3 ef ep hE
    unfold brV brC at P1 P2 LD
    dsimp only at P1 P2 LD
    go_enter Tryz.func9, Tryz.ntmps9
    go_wp2_with fail
    refine (N1.out _).mono ?_
    rintro e w1 ⟨rfl, hb⟩
    obtain ⟨z1, hz1⟩ : ∃ z, z = w1.heap.size := ⟨_, rfl⟩
    obtain ⟨W1, hW1⟩ : ∃ W, W = w1.alloc (.cells #[.int .i64 1, .bool true, .int .i64 1, .int .i64 0, .int .i64 0] 24) := ⟨_, rfl⟩
    have R1 := Box.mk (show W1.heap[z1]? = some (.cells #[.int .i64 1, .bool true, .int .i64 1, .int .i64 0, .int .i64 0] 24 (0, 0)) by rw [hW1, hz1]; exact heap_alloc_new _ _)
    have Q1 := Box.mk (show Below w.heap.size w W1 by rw [hW1]; exact hb.alloc hb.size _)
    clear hb
    go_upto_region 2 with (fail)
    rw [← hW1, ← hz1]
    clear hW1 hz1
    obtain ⟨⟨k0, k1, k2, k3, k4⟩, _⟩ := boot_cells (r := ⟨1, true, 1, 0, 0⟩) R1.out
    go_wp2_with fail
    clear k0 k1 k2 k3 k4
    refine (N2.out _).mono ?_
    rintro e w2 ⟨rfl, hb⟩
    obtain ⟨z2, hz2⟩ : ∃ z, z = w2.heap.size := ⟨_, rfl⟩
    obtain ⟨W2, hW2⟩ : ∃ W, W = w2.alloc (.cells #[.int .i64 0, .bool false, .int .i64 0, .int .i64 0, .int .i64 0] 24) := ⟨_, rfl⟩
    have R2 := Box.mk (show W2.heap[z2]? = some (.cells #[.int .i64 0, .bool false, .int .i64 0, .int .i64 0, .int .i64 0] 24 (0, 0)) by rw [hW2, hz2]; exact heap_alloc_new _ _)
    have Q2 := Box.mk (show Below W1.heap.size W1 W2 by rw [hW2]; exact hb.alloc hb.size _)
    clear hb
    go_upto_region 3 with (fail)
    rw [← hW2, ← hz2]
    clear hW2 hz2
    obtain ⟨⟨k0, k1, k2, k3, k4⟩, _⟩ := boot_cells (r := ⟨0, false, 0, 0, 0⟩) R2.out
    go_wp2_with fail
    clear k0 k1 k2 k3 k4
    refine (N3.out _).mono ?_
    rintro e w3 ⟨rfl, hb⟩
    obtain ⟨z3, hz3⟩ : ∃ z, z = w3.heap.size := ⟨_, rfl⟩
    obtain ⟨W3, hW3⟩ : ∃ W, W = w3.alloc (.cells #[.int .i64 1, .bool false, .int .i64 3, .int .i64 0, .int .i64 0] 24) := ⟨_, rfl⟩
    have R3 := Box.mk (show W3.heap[z3]? = some (.cells #[.int .i64 1, .bool false, .int .i64 3, .int .i64 0, .int .i64 0] 24 (0, 0)) by rw [hW3, hz3]; exact heap_alloc_new _ _)
    have Q3 := Box.mk (show Below W2.heap.size W2 W3 by rw [hW3]; exact hb.alloc hb.size _)
    clear hb
    go_upto_region 4 with (fail)
    rw [← hW3, ← hz3]
    clear hW3 hz3
    obtain ⟨⟨k0, k1, k2, k3, k4⟩, _⟩ := boot_cells (r := ⟨1, false, 3, 0, 0⟩) R3.out
    go_wp2_with fail
    clear k0 k1 k2 k3 k4
    have BW3 := Box.mk (Q1.out.trans ((Q2.out.mono Q1.out.size).trans (Q3.out.mono (Nat.le_trans Q1.out.size Q2.out.size))))
    have R23 := Box.mk ((Q3.out.block z2 (Array.getElem?_eq_some_iff.1 R2.out).1).trans R2.out)
    have R13 := Box.mk ((Q3.out.block z1 (Nat.lt_of_lt_of_le (Array.getElem?_eq_some_iff.1 R1.out).1 Q2.out.size)).trans ((Q2.out.block z1 (Array.getElem?_eq_some_iff.1 R1.out).1).trans R1.out))
    have RR := Box.mk (And.intro R13.out (And.intro R23.out R3.out))
    clear N1 N2 N3 R1 R2 R3 R13 R23 Q1 Q2 Q3
    have PK : Box (∀ wx, Below W3.heap.size W3 wx → Below w.heap.size w wx ∧ (wx.heap[z1]? = some (.cells #[.int .i64 1, .bool true, .int .i64 1, .int .i64 0, .int .i64 0] 24 (0, 0)) ∧ wx.heap[z2]? = some (.cells #[.int .i64 0, .bool false, .int .i64 0, .int .i64 0, .int .i64 0] 24 (0, 0)) ∧ wx.heap[z3]? = some (.cells #[.int .i64 1, .bool false, .int .i64 3, .int .i64 0, .int .i64 0] 24 (0, 0)))) := ⟨fun wx h =>
      ⟨BW3.out.trans (h.mono BW3.out.size), (h.block z1 (Array.getElem?_eq_some_iff.1 RR.out.1).1).trans RR.out.1, (h.block z2 (Array.getElem?_eq_some_iff.1 RR.out.2.1).1).trans RR.out.2.1, (h.block z3 (Array.getElem?_eq_some_iff.1 RR.out.2.2).1).trans RR.out.2.2⟩⟩
    refine (LD.out _).mono ?_
    rintro e w4 hld
    unfold LaidB at hld
    dsimp only at hld
    obtain ⟨q, p, bb, cb, q', p', bb', cb', kv, lv, rfl, hb, hnn, hf, _, _, hc⟩ := hld
    rcases hc with ⟨h, _⟩ | ⟨_, g, g', rfl, rfl, hl, _, hg, hg', _, _⟩
    · exact absurd rfl h
    have B4 := Box.mk hb; have H4 := Box.mk hl
    have LO := Box.mk (show ∀ i ∈ [g, p, bb, cb], W3.heap.size ≤ i from fun i hi => by
      rcases List.mem_cons.1 hi with rfl | hi
      · exact hg
      · exact hnn.lo i (List.mem_cons_of_mem _ hi))
    have HQ := Box.mk hnn.hq
    clear hb hnn hf hl hg hg' LD
    go_wp2_with fail
    refine (P1.out g q p bb cb _ H4.out).mono ?_
    rintro e w5 ⟨rfl, hl, hu⟩
    have H5 := Box.mk hl; have B5 := Box.mk (Upd.below B4.out hu LO.out B4.out.size)
    clear hl hu H4 B4 P1
    go_wp2_with fail
    refine (P2.out g q p bb cb _ H5.out).mono ?_
    rintro e w6 ⟨rfl, hl, hu⟩
    have H6 := Box.mk hl; have B6 := Box.mk (Upd.below B5.out hu LO.out B5.out.size)
    clear hl hu H5 B5 P2
    go_wp2_with fail
    refine (TW.out p bb cb _ H6.out.f).mono ?_
    rintro e w7 ⟨q2, rfl, hp, hq, hb⟩
    have F7 := Box.mk (H6.out.f.upd (Upd.of_below (S := []) hb) (by simp) (by simp) (by simp)); have P7 := Box.mk hp; have B7 := Box.mk (B6.out.trans (hb.mono B6.out.size))
    have N7 : Box (q2 ∉ [p, bb, cb]) := ⟨by have := H6.out.f.lt; simp only [List.mem_cons, List.not_mem_nil, or_false, not_or]; omega⟩
    have E7 := Box.mk ((HE.out.below (PK.out w7 B7.out).1 GE.out))
    clear hp hq hb H6 B6 TW
    go_wp2_with fail
    refine (OP.out q2 p bb cb _ E7.out F7.out P7.out N7.out).mono ?_
    rintro e w8 ⟨hb, g8, rfl, hl, _⟩
    have H8 := Box.mk hl; have B8 := Box.mk (B7.out.trans (hb.mono B7.out.size))
    clear hb hl B7 F7 P7 N7 E7 OP
    obtain ⟨b8, ra, rb, rc⟩ := PK.out w8 B8.out
    obtain ⟨⟨k0, k1, k2, k3, k4⟩, _⟩ := boot_cells (r := ⟨1, true, 1, 0, 0⟩) ra
    obtain ⟨⟨l0, l1, l2, l3, l4⟩, _⟩ := boot_cells (r := ⟨0, false, 0, 0, 0⟩) rb
    obtain ⟨⟨m0, m1, m2, m3, m4⟩, _⟩ := boot_cells (r := ⟨1, false, 3, 0, 0⟩) rc
    have BB8 := Box.mk b8
    clear ra rb rc b8
    have j1 := eqk1; have j2 := eqk2; have j3 := eqk3; have j4 := eqk4
    go_wp2_with fail
    refine (bget_any g8 q2 _ _ H8.out.bt).mono ?_
    rintro e w9 ⟨rfl, hb⟩
    have H9 := Box.mk (H8.out.keep (Upd.of_below hb)); have B9 := Box.mk (BB8.out.trans (hb.mono BB8.out.size))
    clear hb
    unfold brV brC
    go_wp2_with fail
    refine (bseq_any g8 q2 _ _ H9.out.bt).mono ?_
    rintro e w10 ⟨rfl, rfl⟩
    go_wp2_with fail
    go_ret
    exact ⟨rfl, B9.out⟩
  · cases h
end Go.Proofs.YtgcbmjflodgnbaaGreatDoor
namespace Go.Proofs.YtgcbmjflodgnbaaGreatDoor
set_option maxRecDepth 100000
set_option linter.unusedVariables false
open Go Go.RowKit

theorem eq_arr (n : Nat) (a b c d : Int) (w : World) : (Op.equalIn (n + 2) 22 (.agg #[.int .i64 a, .int .i64 b]) (.agg #[.int .i64 c, .int .i64 d])).run Tryz.prog w = .ok (a == c && b == d) w := by
  have h1 := run_equalIn_int (P := Tryz.prog) w n 3 .i64 .i64 a c Tryz.underlying3
  have h2 := run_equalIn_int (P := Tryz.prog) w n 3 .i64 .i64 b d Tryz.underlying3
  have hs : (sizeOf 3).run Tryz.prog w = .ok 1 w := by kernel_rfl
  have p0 : (part 3 #[.int .i64 a, .int .i64 b] (0 * 1)).run Tryz.prog w = .ok (.int .i64 a) w := by kernel_rfl
  have p1 : (part 3 #[.int .i64 a, .int .i64 b] (1 * 1)).run Tryz.prog w = .ok (.int .i64 b) w := by kernel_rfl
  have q0 : (part 3 #[.int .i64 c, .int .i64 d] (0 * 1)).run Tryz.prog w = .ok (.int .i64 c) w := by kernel_rfl
  have q1 : (part 3 #[.int .i64 c, .int .i64 d] (1 * 1)).run Tryz.prog w = .ok (.int .i64 d) w := by kernel_rfl
  rw [show Op.equalIn (n + 2) 22 (.agg #[.int .i64 a, .int .i64 b]) (.agg #[.int .i64 c, .int .i64 d]) = Op.equalIn ((n + 1) + 1) 22 (.agg #[.int .i64 a, .int .i64 b]) (.agg #[.int .i64 c, .int .i64 d]) from rfl]
  conv => lhs; rw [Op.equalIn]
  simp only [Sem.run_bind, run_underlying Tryz.underlying22, Result.andThen_ok, hs, Std.Legacy.Range.forIn_eq_forIn_range', Std.Legacy.Range.size, List.range', List.forIn_cons, List.forIn_nil]
  clear hs
  generalize (a == c) = x at *
  generalize (b == d) = y at *
  cases x <;> cases y <;> simp [Sem.run_bind, p0, p1, q0, q1, h1, h2]
theorem eq_boot (a : Int) (b : Bool) (c d e a' : Int) (b' : Bool) (c' d' e' : Int) (w : World) : (Op.equalIn 10000 24 (.agg #[.int .i64 a, .bool b, .int .i64 c, .int .i64 d, .int .i64 e]) (.agg #[.int .i64 a', .bool b', .int .i64 c', .int .i64 d', .int .i64 e'])).run Tryz.prog w = .ok (a == a' && (b == b' && (c == c' && (d == d' && e == e')))) w := by
  have h1 := run_equalIn_int (P := Tryz.prog) w 9998 3 .i64 .i64 a a' Tryz.underlying3
  have h2 := run_equalIn_bool' (P := Tryz.prog) w 9998 4 b b' Tryz.underlying4
  have h3 := run_equalIn_int (P := Tryz.prog) w 9998 3 .i64 .i64 c c' Tryz.underlying3
  have h4 := eq_arr 9997 d e d' e' w
  have P : ∀ (a : Int) (b : Bool) (c d e : Int), (part 3 #[.int .i64 a, .bool b, .int .i64 c, .int .i64 d, .int .i64 e] 0).run Tryz.prog w = .ok (.int .i64 a) w ∧ (part 4 #[.int .i64 a, .bool b, .int .i64 c, .int .i64 d, .int .i64 e] 1).run Tryz.prog w = .ok (.bool b) w ∧ (part 3 #[.int .i64 a, .bool b, .int .i64 c, .int .i64 d, .int .i64 e] 2).run Tryz.prog w = .ok (.int .i64 c) w ∧ (part 22 #[.int .i64 a, .bool b, .int .i64 c, .int .i64 d, .int .i64 e] 3).run Tryz.prog w = .ok (.agg #[.int .i64 d, .int .i64 e]) w := fun a b c d e => ⟨by kernel_rfl, by kernel_rfl, by kernel_rfl, by kernel_rfl⟩
  obtain ⟨p0, p1, p2, p3⟩ := P a b c d e
  obtain ⟨q0, q1, q2, q3⟩ := P a' b' c' d' e'
  rw [show 10000 = 9999 + 1 from rfl, run_equalIn_agg w 9999 24 _ _ (by unfold Program.fieldsOf; rw [Tryz.underlying24]) (by kernel_rfl)]
  unfold Program.fieldsOf
  rw [Tryz.underlying24]
  simp only [Op.eqFields]
  clear P
  generalize (a == a') = x at *
  generalize (b == b') = y at *
  generalize (c == c') = z at *
  generalize (d == d') = u at *
  generalize (e == e') = v at *
  cases x <;> cases y <;> cases z <;> cases u <;> cases v <;> simp [Sem.run_bind, p0, p1, p2, p3, q0, q1, q2, q3, h1, h2, h3, h4]
theorem beq_boot (r r' : BR) : (r.slot == r'.slot && (r.up == r'.up && (r.count == r'.count && (r.s0 == r'.s0 && r.s1 == r'.s1)))) = decide (r = r') := by
  rw [Bool.eq_iff_iff, decide_eq_true_iff, BR.eq_iff]
  simp only [Bool.and_eq_true, beq_iff_eq]
theorem eq_rec (r r' : BR) (w : World) : (Op.equalIn 10000 24 (.agg #[.int .i64 r.slot, .bool r.up, .int .i64 r.count, .int .i64 r.s0, .int .i64 r.s1]) (.agg #[.int .i64 r'.slot, .bool r'.up, .int .i64 r'.count, .int .i64 r'.s0, .int .i64 r'.s1])).run Tryz.prog w = .ok (decide (r = r')) w := by
  rw [eq_boot, beq_boot]
end Go.Proofs.YtgcbmjflodgnbaaGreatDoor
