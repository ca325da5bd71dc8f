/- The document's part of a flash: count, clean, write, new. -/
import Derived.Test.YtaeomiedmjedgaaPartRefA
import Derived.Test.YtaeomiedmjedgaaPartH
namespace Go.Proofs.Ytaeomiedmjedgaa
set_option linter.unusedVariables false
open Go Go.RowKit

set_option maxHeartbeats 1000000 in
theorem rpcount_any (q p bb cb : Nat) (F B : Int) (s : FS) (k : Int) (w : World) (hf : Fl 64 w p bb cb s) (hok : s.Ok) (h : RPa w q p F B) (hi : In s.n.length F B) :
    Calls Try.prog 36 #[.pointer (some ⟨q, 0, none⟩), .int .i64 k] w fun e w' => e = .returned (.int .i64 (s.pcount F B k)) ∧ Upd [] w w' := by
  obtain ⟨c0, c1, c2⟩ := h.cells
  by_cases g0 : k < 0
  · have g0' : decide (k < 0) = true := by simpa using g0
    have E : Box (s.pcount F B k = 0) := ⟨by unfold FS.pcount; rw [if_neg (by omega)]⟩
    clear c0 c1 hi h hok hf g0
    go_enter Try.func36, Try.ntmps36
    go_wp2
    go_ret
    exact ⟨by rw [E.out]; rfl, Upd.refl _ _⟩
  · have g0' : decide (k < 0) = false := by simpa using g0
    by_cases g1 : k < B
    · have g1' : decide (B ≤ k) = false := by simpa using g1
      have h1 := hi.lo; have h2 := hi.hi; have h3 := hi.few
      obtain ⟨j, hj⟩ : ∃ j : Nat, F + k = (j : Int) := ⟨(F + k).toNat, by omega⟩
      have hw : IntKind.i64.wrap (F + k) = (j : Int) := by rw [IntKind.wrap_i64]; omega
      have hjl : j < s.n.length := by omega
      have hjI : (j : Int) < (s.n.length : Int) := by omega
      obtain ⟨u, hu⟩ : ∃ u, s.n[j]? = some u := ⟨_, List.getElem?_eq_getElem hjl⟩
      have E : Box (s.pcount F B k = u) := ⟨by unfold FS.pcount FS.count; rw [if_pos (by omega), if_pos (by omega), hj, Int.toNat_natCast, List.getD_eq_getElem?_getD, hu]; rfl⟩
      obtain ⟨bcap, ccap, hb, hc, d0, d1, d2, d3, d4, d5, d6⟩ := hf.cells
      have CU := Box.mk (hf.count j u hu).1
      have FROW := Box.mk (show ∀ w1, GrS [] w.drew w1 → w1.cell? ⟨p, 1, none⟩ = some (.slice (some ⟨cb, 0, none⟩) s.n.length ccap) ∧ w1.cell? ⟨cb, j, none⟩ = some (.int .i64 u) from fun w1 hw1 =>
        ⟨((cellU ((Upd.refl [] w).drew.trans hw1.upd) hf.lt.1 (by simp) d1)), cellU ((Upd.refl [] w).drew.trans hw1.upd) hf.lt.2.2 (by simp) (hf.count j u hu).1⟩)
      have ROW := Box.mk (show w.drew.heap[q]? = some (.cells #[.pointer (some ⟨p, 0, none⟩), .int .i64 F, .int .i64 B] 80 (0, 0)) from h.row)
      clear hu hj hi hok hf g0 g1 h1 h2 h3 hjl c0 c1 d0 d1 d2 d3 d4 d5 d6 hb hc h CU
      go_enter Try.func36, Try.ntmps36
      go_wp2
      clear c2
      refine wp_region_mix 16 [.flo, .flo, .flo, .flo, .flo, .flo, .flo, .flo, .flo, .flo, .flo, .flo, .flo, .flo, .flo, .flo] (by kernel_rfl) (by kernel_rfl) rfl ?_
      simp only [List.take, List.zip, List.zipWith]
      try go_frame
      refine gm_move (.tmp 0) (.inl rfl) (.pointer (some ⟨q, 0, none⟩)) rfl ?_
      try go_frame
      refine gm_flo (.pointer (some ⟨q, 0, none⟩)) (fun w1 hw1 => ?_) ?_
      case refine_1 =>
        go_simp
      try go_frame
      refine gm_flo (.pointer (some ⟨q, 0, none⟩)) (fun w1 hw1 => ?_) ?_
      case refine_1 =>
        go_simp
      try go_frame
      refine gm_flo (.pointer (some ⟨p, 0, none⟩)) (fun w1 hw1 => ?_) ?_
      case refine_1 =>
        have e1 : w1.cell? ⟨q, 0, none⟩ = some (.pointer (some ⟨p, 0, none⟩)) := (cell_of_row _ _ _ _ _ _ (hw1.at (by simp) ROW.out)).trans rfl
        go_simp
      try go_frame
      refine gm_flo (.pointer (some ⟨p, 0, none⟩)) (fun w1 hw1 => ?_) ?_
      case refine_1 =>
        go_simp
      try go_frame
      refine gm_flo (.pointer (some ⟨p, 1, none⟩)) (fun w1 hw1 => ?_) ?_
      case refine_1 =>
        go_simp
      try go_frame
      refine gm_flo (.slice (some ⟨cb, 0, none⟩) s.n.length ccap) (fun w1 hw1 => ?_) ?_
      case refine_1 =>
        have e1 := (FROW.out w1 hw1).1
        go_simp
      try go_frame
      refine gm_move (.tmp 0) (.inl rfl) (.pointer (some ⟨q, 0, none⟩)) rfl ?_
      try go_frame
      refine gm_flo (.pointer (some ⟨q, 0, none⟩)) (fun w1 hw1 => ?_) ?_
      case refine_1 =>
        go_simp
      try go_frame
      refine gm_flo (.pointer (some ⟨q, 1, none⟩)) (fun w1 hw1 => ?_) ?_
      case refine_1 =>
        go_simp
      try go_frame
      refine gm_flo (.pointer (some ⟨q, 1, none⟩)) (fun w1 hw1 => ?_) ?_
      case refine_1 =>
        go_simp
      try go_frame
      refine gm_flo (.int .i64 F) (fun w1 hw1 => ?_) ?_
      case refine_1 =>
        have e1 : w1.cell? ⟨q, 1, none⟩ = some (.int .i64 F) := (cell_of_row _ _ _ _ _ _ (hw1.at (by simp) ROW.out)).trans rfl
        go_simp
      try go_frame
      refine gm_move (.tmp 1) (.inl rfl) (.int .i64 k) rfl ?_
      try go_frame
      refine gm_flo (.int .i64 (j : Nat)) (fun w1 hw1 => ?_) ?_
      case refine_1 =>
        go_simp
      try go_frame
      refine gm_flo (.pointer (some ⟨cb, j, none⟩)) (fun w1 hw1 => ?_) ?_
      case refine_1 =>
        go_simp
      try go_frame
      refine gm_flo (.int .i64 u) (fun w1 hw1 => ?_) ?_
      case refine_1 =>
        have e1 := (FROW.out w1 hw1).2
        go_simp
      try go_frame
      refine gm_nil ?_
      intro w9 hw9 hF9
      simp only [List.drop]
      try go_frame
      have HW9 := Box.mk ((Upd.refl [] w).drew.trans hw9.upd); clear hw9 hF9
      go_wp2
      go_ret
      exact ⟨by rw [E.out]; rfl, HW9.out⟩
    · have g1' : decide (B ≤ k) = true := by simpa using g1
      have E : Box (s.pcount F B k = 0) := ⟨by unfold FS.pcount; rw [if_neg (by omega)]⟩
      clear c0 c1 hi h hok hf g0 g1
      go_enter Try.func36, Try.ntmps36
      go_wp2
      go_ret
      exact ⟨by rw [E.out]; rfl, Upd.refl _ _⟩

theorem ffs_yes (S : ByteArray) (h : ∀ k (hk : k < S.size), S[k] = 255) : (((ffs S : Nat) : Int) == ((S.size : Nat) : Int)) = true := by
  have : ffs S = S.size := by
    have := ffs_all S.data.toList (fun k hk => by
      have hk' : k < S.size := by simpa using hk
      rw [List.getElem?_eq_getElem hk]; exact congrArg some (h k hk'))
    simpa using this
  rw [beq_iff_eq, this]
theorem ffs_no (S : ByteArray) (k : Nat) (hk : k < S.size) (h : S[k] ≠ 255) : (((ffs S : Nat) : Int) == ((S.size : Nat) : Int)) = false := by
  rw [beq_eq_false_iff_ne]
  intro e
  have e : ffs S = S.size := by omega
  unfold ffs Lib.countByte at e
  have hl : S.data.toList.length = S.size := by simp
  rw [← hl] at e
  have := List.count_eq_length.1 e S[k] (List.getElem_mem (l := S.data.toList) (n := k) (by rw [hl]; exact hk))
  exact h this.symm
set_option maxHeartbeats 1000000 in
theorem rpclean_any (q p bb cb : Nat) (F B : Int) (s : FS) (at_ n : Int) (w : World) (hf : Fl 64 w p bb cb s) (hok : s.Ok) (h : RPa w q p F B) (hi : In s.n.length F B) (ba : -9223372036854775808 ≤ at_ ∧ at_ ≤ 9223372036854775807) (bn : -9223372036854775808 ≤ n ∧ n ≤ 9223372036854775807) :
    Calls Try.prog 30 #[.pointer (some ⟨q, 0, none⟩), .int .i64 at_, .int .i64 n] w fun e w' => e = .returned (.tuple #[.bool (pcleanV s F B at_ n).1, .int .i64 (pcleanV s F B at_ n).2]) ∧ Upd [] w w' := by
  have RD := Box.mk (rpread_any q p bb cb F B s at_ n w hf hok h hi ba bn)
  have SZ : Box ((preadV s F B at_ n).1.size ≤ 131072) := ⟨by
    have h1 := hok.len; have h2 := hok.few
    unfold preadV
    split
    · split
      · show (0 : Nat) ≤ _; omega
      · show ((s.b.drop _).take _).toArray.size ≤ _
        rw [List.size_toArray, List.length_take, List.length_drop]; omega
    · show (0 : Nat) ≤ _; omega⟩
  unfold pcleanV
  generalize preadV s F B at_ n = V at RD SZ ⊢
  obtain ⟨S, x⟩ := V
  dsimp only at RD SZ ⊢
  clear ba bn hi h hok hf
  by_cases hx : x = 0
  · subst hx
    rw [if_pos rfl]
    dsimp only
    have HY := Box.mk (ffs_yes S); have HN := Box.mk (ffs_no S)
    have hS := SZ.out
    generalize (((ffs S : Nat) : Int) == ((S.size : Nat) : Int)) = r at HY HN ⊢
    go_enter Try.func30, Try.ntmps30
    go_wp2_with fail
    refine RD.out.mono ?_
    rintro e w1 ⟨rfl, u1⟩
    have U1 := Box.mk u1; clear u1
    go_wp2_with fail
    go_loop [10] (fun i => ∃ k : Nat, k ≤ S.size ∧ i = .int .i64 k ∧ ∀ j (hj : j < S.size), j < k → S[j] = 255) (fun i => S.size - (intOf i).toNat)
    case atStart => exact ⟨0, by omega, rfl, fun j hj h => by omega⟩
    case round =>
      obtain ⟨k, hk, rfl, hall⟩ := hrel
      have HA := Box.mk hall; clear hall
      by_cases hlt : k < S.size
      · by_cases hb : S[k] = 255
        · have hb2 : ((S[k].toNat : Int) != 255) = false := by rw [hb]; rfl
          have HB := Box.mk hb; clear hb
          go_wp2
          go_round
          case rel => exact ⟨k + 1, by omega, by go_num, fun j hj h => by
            by_cases e : j = k
            · subst e; exact HB.out
            · exact HA.out j hj (by omega)⟩
          case measure => simp [intOf]; omega
        · have hb2 : ((S[k].toNat : Int) != 255) = true := by
            rw [bne_iff_ne]; intro e; apply hb; apply UInt8.toNat_inj.1; show _ = 255; omega
          have E := Box.mk (HN.out k hlt hb); clear hb
          go_wp2
          go_ret2
          exact ⟨by rw [E.out]; rfl, U1.out⟩
      · have E := Box.mk (HY.out (fun j hj => HA.out j hj (by omega)))
        go_wp2
        go_ret2
        exact ⟨by rw [E.out]; rfl, U1.out⟩
  · have hxb : (x != 0) = true := by rw [bne_iff_ne]; exact hx
    rw [if_neg hx]
    clear hx
    go_enter Try.func30, Try.ntmps30
    go_wp2_with fail
    refine RD.out.mono ?_
    rintro e w1 ⟨rfl, u1⟩
    have U1 := Box.mk u1; clear u1
    go_wp2
    go_ret2
    exact ⟨rfl, U1.out⟩

/-- What holds at the head of Write's loop. -/
structure WrS (t : TypeId) (w wr : World) (R : FS × Int) (s0 : FS) (l : List UInt8) (A p bb cb : Nat) (s : FS) (f i : Nat) : Prop where
  ok : s.Ok
  nn : s.n.length = s0.n.length
  fl : Fl t wr p bb cb s
  up : Upd [p, bb] w wr
  fi : f ≤ l.length ∧ 1 ≤ i ∧ i ≤ l.length + 1
  go : i ≤ l.length → f < i ∧ (i - f) ≤ 64 - (A + f) % 64
  en : i = l.length + 1 → f = l.length
  pw : ∃ k, l.length - f ≤ k ∧ FS.pw k s ((A + f : Nat) : Int) (l.drop f) = R
theorem ext_drop (t : ByteArray) (f i : Nat) (hi : i ≤ t.size) (hf : f ≤ i) : (t.extract f i).data.toList = (t.data.toList.drop f).take (i - f) := by
  rw [ByteArray.data_extract, Array.toList_extract, List.extract_eq_take_drop]
set_option maxRecDepth 100000 in
set_option maxHeartbeats 2000000 in
theorem rpwrite_any (q p bb cb : Nat) (F B : Int) (s : FS) (at_ : Int) (str : ByteArray) (w : World) (hf : Fl 64 w p bb cb s) (hok : s.Ok) (h : RPa w q p F B) (hi : In s.n.length F B) (hqb : q ≠ bb) (hqp : q ≠ p) (ba : -9223372036854775808 ≤ at_ ∧ at_ ≤ 9223372036854775807) (hs : str.size ≤ 9223372036854775807) :
    Calls Try.prog 28 #[.pointer (some ⟨q, 0, none⟩), .int .i64 at_, .string str] w fun e w' => e = .returned (.int .i64 (s.pwrite F B at_ str.data.toList).2) ∧ Fl 64 w' p bb cb (s.pwrite F B at_ str.data.toList).1 ∧ Upd [p, bb] w w' := by
  have PL := Box.mk (rin_any q p F B _ at_ str.size w h hi ba (by omega))
  have hlen : str.data.toList.length = str.size := by simp
  by_cases hb : inB B at_ str.size = true
  · have hin := hb
    rw [inB_iff] at hin
    rw [hb] at PL
    have h1 := hi.lo; have h2 := hi.hi; have h3 := hi.few
    obtain ⟨a, rfl⟩ : ∃ a : Nat, at_ = a := ⟨at_.toNat, by omega⟩
    obtain ⟨A, hA⟩ : ∃ A : Nat, 512 * F + (a : Int) = A := ⟨(512 * F + a).toNat, by omega⟩
    have E : s.pwrite F B a str.data.toList = FS.pw str.size s (A : Int) str.data.toList := by unfold FS.pwrite; rw [hlen, hb, if_pos rfl, hA]
    rw [E]
    obtain ⟨R, hR⟩ : ∃ R, R = FS.pw str.size s (A : Int) str.data.toList := ⟨_, rfl⟩
    rw [← hR]
    have ST0 := Box.mk (show WrS 64 w w R s str.data.toList A p bb cb s 0 1 from ⟨hok, rfl, hf, Upd.refl _ _, by omega, fun h => by omega, fun h => by omega, str.size, by omega, by rw [List.drop_zero]; exact hR.symm⟩)
    have HP := Box.mk h; have HA := Box.mk hA
    have hwF : IntKind.i64.wrap (512 * F) = 512 * F := by rw [IntKind.wrap_i64]; omega
    have hwA : IntKind.i64.wrap (512 * F + (a : Int)) = (A : Int) := by rw [IntKind.wrap_i64]; omega
    have hbd : a + str.size ≤ 131072 ∧ A + str.size ≤ 131072 ∧ (A : Int) % 64 = (a : Int) % 64 := by omega
    have HBD := Box.mk hbd
    have hsz : (str.size : Int) ≤ 131072 ∧ (a : Int) ≤ 131072 ∧ (A : Int) ≤ 131072 := by omega
    obtain ⟨hsz1, hsz2, hsz3⟩ := hsz
    clear E hb hlen hR hf h hok hi hin hs ba hA h1 h2 h3 hbd
    go_enter Try.func28, Try.ntmps28
    go_wp2_with fail
    refine PL.out.mono ?_
    rintro e w1 ⟨rfl, rfl⟩
    clear PL
    go_wp2_with fail
    go_loopw [7, 8] (fun x y wr => ∃ (f i : Nat) (s' : FS), x = .int .i64 f ∧ y = .int .i64 i ∧ WrS 64 w wr R s str.data.toList A p bb cb s' f i) (fun _ y _ => str.size + 1 - (intOf y).toNat)
    case atStart => exact ⟨0, 1, s, rfl, rfl, ST0.out⟩
    case round =>
      clear ST0
      obtain ⟨f, i, s', rfl, rfl, st⟩ := hrel
      have hlen : str.data.toList.length = str.size := by simp
      have hfi := st.fi
      rw [hlen] at hfi
      obtain ⟨hf1, hi1, hi2⟩ := hfi
      have ST := Box.mk st
      have CU := Box.mk (HP.out.upd st.up (by simp [hqp, hqb]))
      by_cases hle : i ≤ str.size
      · have hleI : (i : Int) ≤ (str.size : Int) := by omega
        have hw1 : IntKind.i64.wrap ((a : Int) + (i : Int)) = (a : Int) + (i : Int) := by rw [IntKind.wrap_i64]; omega
        obtain ⟨go1, go2⟩ := st.go (by rw [hlen]; exact hle)
        obtain ⟨k, hk, hpw⟩ := st.pw
        rw [hlen] at hk
        clear st
        by_cases hc : i < str.size ∧ (a + i) % 64 ≠ 0
        · have hc1 : (i : Int) < (str.size : Int) := by omega
          have hc2 : (((a : Int) + (i : Int)) % 64 != 0) = true := by rw [bne_iff_ne]; omega
          have ST2 := Box.mk (show WrS 64 w wr R s str.data.toList A p bb cb s' f (i + 1) from ⟨ST.out.ok, ST.out.nn, ST.out.fl, ST.out.up, by omega, fun _ => by have := HBD.out; omega, fun h => by omega, ST.out.pw⟩)
          clear hc hlen hk hpw go1 go2 ST
          go_wp2_with fail
          exact ⟨⟨f, i + 1, s', rfl, by go_num, ST2.out⟩, by simp [intOf]; omega⟩
        · obtain ⟨m, hm⟩ : ∃ m, m = i - f := ⟨_, rfl⟩
          have hmm : m = min (str.size - f) (64 - ((A + f : Nat) : Int) % 64).toNat := by have := HBD.out; omega
          obtain ⟨k', rfl⟩ : ∃ k', k = k' + 1 := ⟨k - 1, by omega⟩
          have hdl : (str.data.toList.drop f).length = str.size - f := by rw [List.length_drop, hlen]
          have hne : str.data.toList.drop f ≠ [] := by intro h; rw [h] at hdl; simp at hdl; omega
          have hmq : min (str.data.toList.drop f).length (64 - (((A + f : Nat) : Int) % 64).toNat) = m := by rw [hdl]; omega
          rw [FS.pw_step _ _ _ _ hne, hmq, List.drop_drop] at hpw
          have hul := ext_drop str f i hle (by omega)
          rw [← hm] at hul
          have hus : (str.extract f i).size = m := by rw [ByteArray.size_extract]; omega
          rw [← hul] at hpw
          have PR := Box.mk (fun w h => rprogram_any p bb cb s' ((A + f : Nat) : Int) (str.extract f i) w h ST.out.ok (by omega) (by omega))
          have OK2 := Box.mk (FS.program_ok ST.out.ok ((A + f : Nat) : Int) (str.extract f i).data.toList)
          have N2 := Box.mk (FS.program_n s' ((A + f : Nat) : Int) (str.extract f i).data.toList)
          have hw2 : IntKind.i64.wrap ((A : Int) + (f : Int)) = ((A + f : Nat) : Int) := by rw [IntKind.wrap_i64]; omega
          have hfm : f + m = i := by omega
          rw [hfm, show ((A + f : Nat) : Int) + (m : Nat) = ((A + i : Nat) : Int) from by omega] at hpw
          have hfi2 : (f : Int) ≤ (i : Int) := by omega
          have ROW := Box.mk (show wr.drew.heap[q]? = some (.cells #[.pointer (some ⟨p, 0, none⟩), .int .i64 F, .int .i64 B] 80 (0, 0)) from CU.out.row)
          have NQ : Box (q ∉ [p, bb]) := ⟨by simp [hqp, hqb]⟩
          have FD := Box.mk (ST.out.fl.upd (Upd.refl [] wr).drew (by simp) (by simp) (by simp))
          have LTS : Box (∀ k ∈ [p, bb], k < wr.heap.size) := ⟨by have := ST.out.fl.lt; intro k hk; simp at hk; omega⟩
          generalize s'.program ((A + f : Nat) : Int) (str.extract f i).data.toList = r at PR OK2 N2 hpw
          obtain ⟨r1, r2⟩ := r
          dsimp only at PR OK2 N2 hpw
          have HPW := Box.mk hpw; have HC := Box.mk hc; have HK := Box.mk hk; have GO := Box.mk (show i ≤ str.size ∧ f < i from ⟨hle, go1⟩)
          by_cases hc1 : i < str.size
          all_goals
            have hc1I : decide ((i : Int) < (str.size : Int)) = decide (i < str.size) := by rw [decide_eq_decide]; omega
            first
            | (have hcI : decide ((i : Int) < (str.size : Int)) = true := by simpa using hc1)
            | (have hcI : decide ((i : Int) < (str.size : Int)) = false := by simpa using hc1)
            have hc2 : i < str.size → (((a : Int) + (i : Int)) % 64 != 0) = false := fun h => by rw [bne_eq_false_iff_eq]; have := HC.out; omega
            first
            | (have hc3 := hc2 hc1)
            | skip
            clear hc2 hc1I hpw hul hus hmq hne hdl hmm hm hfm hc hk hlen go1 go2 hle
            go_upto_region 8 with (fail)
            refine wp_region_mixS [p, bb] (fun w => Fl 64 w p bb cb s') (fun w w' hg h => h.upd hg.upd (by simp) (by simp) (by simp)) (FD.out) (LTS.out) 19 [.flo, .flo, .flo, .flo, .flo, .flo, .flo, .flo, .flo, .flo, .flo, .flo, .flo, .flo, .flo, .flo, .flo, .flo, .cha] (by kernel_rfl) (by kernel_rfl) rfl ?_
            simp only [List.take, List.zip, List.zipWith]
            try go_frame
            refine gm_move (.tmp 0) (.inl rfl) (.pointer (some ⟨q, 0, none⟩)) rfl ?_
            try go_frame
            refine gm_flo (.pointer (some ⟨q, 0, none⟩)) (fun w1 hw1 => ?_) ?_
            case refine_1 =>
              go_simp
            try go_frame
            refine gm_flo (.pointer (some ⟨q, 0, none⟩)) (fun w1 hw1 => ?_) ?_
            case refine_1 =>
              go_simp
            try go_frame
            refine gm_flo (.pointer (some ⟨p, 0, none⟩)) (fun w1 hw1 => ?_) ?_
            case refine_1 =>
              have e1 : w1.cell? ⟨q, 0, none⟩ = some (.pointer (some ⟨p, 0, none⟩)) := (cell_of_row _ _ _ _ _ _ (hw1.at NQ.out ROW.out)).trans rfl
              go_simp
            try go_frame
            refine gm_move (.tmp 0) (.inl rfl) (.pointer (some ⟨q, 0, none⟩)) rfl ?_
            try go_frame
            refine gm_flo (.pointer (some ⟨q, 0, none⟩)) (fun w1 hw1 => ?_) ?_
            case refine_1 =>
              go_simp
            try go_frame
            refine gm_flo (.pointer (some ⟨q, 1, none⟩)) (fun w1 hw1 => ?_) ?_
            case refine_1 =>
              go_simp
            try go_frame
            refine gm_flo (.pointer (some ⟨q, 1, none⟩)) (fun w1 hw1 => ?_) ?_
            case refine_1 =>
              go_simp
            try go_frame
            refine gm_flo (.int .i64 F) (fun w1 hw1 => ?_) ?_
            case refine_1 =>
              have e1 : w1.cell? ⟨q, 1, none⟩ = some (.int .i64 F) := (cell_of_row _ _ _ _ _ _ (hw1.at NQ.out ROW.out)).trans rfl
              go_simp
            try go_frame
            refine gm_flo (.int .i64 (512 * F)) (fun w1 hw1 => ?_) ?_
            case refine_1 =>
              go_simp
            try go_frame
            refine gm_move (.tmp 1) (.inl rfl) (.int .i64 (a : Nat)) rfl ?_
            try go_frame
            refine gm_flo (.int .i64 (A : Nat)) (fun w1 hw1 => ?_) ?_
            case refine_1 =>
              go_simp
            try go_frame
            refine gm_move (.tmp 7) (.inl rfl) (.int .i64 (f : Nat)) rfl ?_
            try go_frame
            refine gm_flo (.int .i64 ((A + f : Nat) : Int)) (fun w1 hw1 => ?_) ?_
            case refine_1 =>
              go_simp
            try go_frame
            refine gm_move (.tmp 2) (.inl rfl) (.string str) rfl ?_
            try go_frame
            refine gm_move (.tmp 7) (.inl rfl) (.int .i64 (f : Nat)) rfl ?_
            try go_frame
            refine gm_move (.tmp 8) (.inl rfl) (.int .i64 (i : Nat)) rfl ?_
            try go_frame
            refine gm_flo (.string (str.extract f i)) (fun w1 hw1 => ?_) ?_
            case refine_1 =>
              go_simp
            try go_frame
            refine gm_callS [.pointer (some ⟨p, 0, none⟩), .int .i64 ((A + f : Nat) : Int), .string (str.extract f i)] (by kernel_rfl) rfl rfl (fun w1 hw1 hF1 => (PR.out _ hF1).mono ?_)
            rintro e w2 ⟨rfl, hf, hu⟩
            refine ⟨_, rfl, GrS.of_upd hu (by simp), (fun w => Fl 64 w p bb cb r1), (fun w w' hg h => h.upd hg.upd (by simp) (by simp) (by simp)), (hf), ?_⟩
            clear hw1 hF1 hf hu w1 w2
            try go_frame
            refine gm_nil ?_
            intro w9 hw9 hF9
            simp only [List.drop]
            try go_frame
            have H9 := Box.mk hF9; have U9 := Box.mk ((ST.out.up.trans (Upd.refl [p, bb] wr).drew).trans hw9.upd)
            clear hF9 hw9
            by_cases hr : r2 = 0
            · have hrb : (r2 != 0) = false := by simpa using hr
              have HR := Box.mk hr; clear hr
              go_wp2_with fail
              refine ⟨⟨i, i + 1, r1, rfl, by go_num, OK2.out, N2.out.trans ST.out.nn, H9.out, U9.out, by simp; have := GO.out; omega, fun h => by simp at h; omega, fun h => by simp at h ⊢; have := GO.out; omega, k', by simp; have := HK.out; have := GO.out; omega, ?_⟩, by simp [intOf]; have := GO.out; omega⟩
              have := HPW.out
              rw [if_neg (by rw [HR.out]; simp)] at this
              exact this
            · have hrb : (r2 != 0) = true := by rw [bne_iff_ne]; exact hr
              have HR : Box ((r1, r2) = R) := ⟨by have := HPW.out; rwa [if_pos hr] at this⟩
              clear hr HPW
              go_wp2_with fail
              go_ret
              obtain ⟨rfl⟩ := HR
              exact ⟨rfl, H9.out, U9.out⟩
      · have hen := st.en (by rw [hlen]; omega)
        obtain ⟨k, hk, hpw⟩ := st.pw
        rw [hen, List.drop_length, FS.pw_nil] at hpw
        have HR := Box.mk hpw
        have hleI : ¬ (i : Int) ≤ (str.size : Int) := by omega
        clear st hpw hk hen hlen
        go_wp2_with fail
        go_ret
        obtain ⟨rfl⟩ := HR
        exact ⟨rfl, ST.out.fl, ST.out.up⟩
  · have hb' : inB B at_ str.size = false := by simpa using hb
    have E : Box (s.pwrite F B at_ str.data.toList = (s, 121)) := ⟨by unfold FS.pwrite; rw [hlen, hb']; rfl⟩
    obtain ⟨R, hR⟩ : ∃ R, R = s.pwrite F B at_ str.data.toList := ⟨_, rfl⟩
    rw [← hR] at E ⊢
    obtain ⟨rfl⟩ := E
    have HF := Box.mk hf
    rw [hb'] at PL
    clear hR hlen hf h hok hi hs ba hb hb'
    go_enter Try.func28, Try.ntmps28
    go_wp2_with fail
    refine PL.out.mono ?_
    rintro e w1 ⟨rfl, rfl⟩
    clear PL
    go_wp2_with fail
    go_ret
    exact ⟨rfl, HF.out, Upd.refl _ _⟩
end Go.Proofs.Ytaeomiedmjedgaa
