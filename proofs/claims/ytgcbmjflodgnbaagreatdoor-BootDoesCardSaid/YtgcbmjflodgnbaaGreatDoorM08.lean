/- The document's part of a flash: size, in, read, erase, count, clean. The document's part of a flash: count, clean, write, new. Boot: what cleaning, keeping, putting leave, torn or not: plain laws. Boot: free, Put. Boot: Put. errors.Is at a sentinel: the same one, nil. After the guide's worked SentryIs. -/
import Derived.Test.YtgcbmjflodgnbaaGreatDoorM03
import Derived.Test.YtgcbmjflodgnbaaGreatDoorM07
import Derived.Test.YtgcbmjflodgnbaaGreatDoorM05
import Derived.Test.YtgcbmjflodgnbaaGreatDoorM04
import Derived.Test.YtgcbmjflodgnbaaGreatDoorM06
import Derived.Test.YtgcbmjflodgnbaaGreatDoorChecked
import Derived.WalkKit
import Derived.LaidEql
import Derived.Stop.Asserts
import Derived.RowKitTokens
namespace Go.Proofs.YtgcbmjflodgnbaaGreatDoor
set_option maxRecDepth 100000
set_option linter.unusedVariables false
open Go Go.RowKit

/-- The document's part lies at q: of the flash at p, from block F on, B blocks. -/
structure RPa (w : World) (q p : Nat) (F B : Int) : Prop where
  row : w.heap[q]? = some (.cells #[.pointer (some ⟨p, 0, none⟩), .int .i64 F, .int .i64 B] 89 (0, 0))
theorem RPa.cells {w : World} {q p : Nat} {F B : Int} (h : RPa w q p F B) : w.cell? ⟨q, 0, none⟩ = some (.pointer (some ⟨p, 0, none⟩)) ∧ w.cell? ⟨q, 1, none⟩ = some (.int .i64 F) ∧ w.cell? ⟨q, 2, none⟩ = some (.int .i64 B) := by
  refine ⟨?_, ?_, ?_⟩ <;> (rw [cell_of_row _ _ _ _ _ _ h.row]; rfl)
theorem RPa.lt {w : World} {q p : Nat} {F B : Int} (h : RPa w q p F B) : q < w.heap.size := (Array.getElem?_eq_some_iff.1 h.row).1
theorem RPa.upd {w w' : World} {q p : Nat} {F B : Int} {S : List Nat} (h : RPa w q p F B) (hu : Upd S w w') (hn : q ∉ S) : RPa w' q p F B := ⟨(hu.block _ h.lt hn).trans h.row⟩

theorem rsize_any (q p : Nat) (F B : Int) (n : Nat) (w : World) (h : RPa w q p F B) (hi : In n F B) :
    Calls Tryz.prog 50 #[.pointer (some ⟨q, 0, none⟩)] w fun e w' => e = .returned (.int .i64 (512 * B)) ∧ w = w' := by
  obtain ⟨c0, c1, c2⟩ := h.cells
  have hw : IntKind.i64.wrap (512 * B) = 512 * B := by rw [IntKind.wrap_i64]; have := hi.some; have := hi.hi; have := hi.lo; have := hi.few; omega
  clear c0 c1 hi h
  go_enter Tryz.func50, Tryz.ntmps50
  go_wp2
  go_ret
  exact ⟨rfl, rfl⟩
set_option maxHeartbeats 1000000 in
theorem rin_any (q p : Nat) (F B : Int) (k : Nat) (at_ n : Int) (w : World) (h : RPa w q p F B) (hi : In k F B) (ba : -9223372036854775808 ≤ at_ ∧ at_ ≤ 9223372036854775807) (bn : -9223372036854775808 ≤ n ∧ n ≤ 9223372036854775807) :
    Calls Tryz.prog 71 #[.pointer (some ⟨q, 0, none⟩), .int .i64 at_, .int .i64 n] w fun e w' => e = .returned (.bool (inB B at_ n)) ∧ w = w' := by
  obtain ⟨c0, c1, c2⟩ := h.cells
  have SZ := Box.mk (fun w h => rsize_any q p F B k w h hi)
  have HP := Box.mk h
  have h1 := hi.lo; have h2 := hi.some; have h3 := hi.hi; have h4 := hi.few
  obtain ⟨S, hS⟩ : ∃ S, S = 512 * B := ⟨_, rfl⟩
  rw [← hS] at SZ
  have hSl : 512 ≤ S ∧ S ≤ 131072 := by omega
  have E0 := inB_iff B at_ n
  rw [← hS] at E0
  clear c0 c2 h1 h2 h3 h4 hS h
  generalize inB B at_ n = r at E0 ⊢
  by_cases g0 : 0 ≤ at_
  · have g0' : decide (0 ≤ at_) = true := by simpa using g0
    by_cases g1 : 0 ≤ n
    · have g1' : decide (0 ≤ n) = true := by simpa using g1
      by_cases g2 : at_ ≤ S
      · have g2' : decide (at_ ≤ S) = true := by simpa using g2
        have hws : IntKind.i64.wrap (S - at_) = S - at_ := by rw [IntKind.wrap_i64]; omega
        have E : Box (r = decide (n ≤ S - at_)) := ⟨by cases r <;> simp at E0 ⊢ <;> omega⟩
        clear E0
        go_enter Tryz.func71, Tryz.ntmps71
        go_wp2_with fail
        refine (SZ.out _ HP.out).mono ?_
        rintro e w1 ⟨rfl, rfl⟩
        go_wp2_with fail
        refine (SZ.out _ HP.out).mono ?_
        rintro e w1 ⟨rfl, rfl⟩
        go_wp2
        go_ret
        exact ⟨by rw [E.out]; rfl, rfl⟩
      · have g2' : decide (at_ ≤ S) = false := by simpa using g2
        have E : Box (r = false) := ⟨by cases r <;> simp at E0 ⊢; omega⟩
        clear E0
        go_enter Tryz.func71, Tryz.ntmps71
        go_wp2_with fail
        refine (SZ.out _ HP.out).mono ?_
        rintro e w1 ⟨rfl, rfl⟩
        go_wp2
        go_ret
        exact ⟨by rw [E.out]; rfl, rfl⟩
    · have g1' : decide (0 ≤ n) = false := by simpa using g1
      have E : Box (r = false) := ⟨by cases r <;> simp at E0 ⊢; omega⟩
      clear E0
      go_enter Tryz.func71, Tryz.ntmps71
      go_wp2
      go_ret
      exact ⟨by rw [E.out]; rfl, rfl⟩
  · have g0' : decide (0 ≤ at_) = false := by simpa using g0
    have E : Box (r = false) := ⟨by cases r <;> simp at E0 ⊢; omega⟩
    clear E0
    go_enter Tryz.func71, Tryz.ntmps71
    go_wp2
    go_ret
    exact ⟨by rw [E.out]; rfl, rfl⟩

set_option maxHeartbeats 1000000 in
theorem rpread_any (q p bb cb : Nat) (F B : Int) (s : FS) (at_ n : Int) (w : World) (hf : Fl 73 w p bb cb s) (hok : s.Ok) (h : RPa w q p F B) (hi : In s.n.length F B) (ba : -9223372036854775808 ≤ at_ ∧ at_ ≤ 9223372036854775807) (bn : -9223372036854775808 ≤ n ∧ n ≤ 9223372036854775807) :
    Calls Tryz.prog 51 #[.pointer (some ⟨q, 0, none⟩), .int .i64 at_, .int .i64 n] w fun e w' => e = .returned (.tuple #[.string (preadV s F B at_ n).1, .int .i64 (preadV s F B at_ n).2]) ∧ Upd [] w w' := by
  obtain ⟨c0, c1, c2⟩ := h.cells
  have PL := Box.mk (rin_any q p F B _ at_ n w h hi ba bn)
  have h1 := hi.lo; have h2 := hi.some; have h3 := hi.hi; have h4 := hi.few
  by_cases hb : inB B at_ n = true
  · have HF := Box.mk hf; have HP := Box.mk h
    have RD := Box.mk (fun w hf => rread_any p bb cb s (512 * F + at_) n w hf hok (by rw [inB_iff] at hb; omega) bn)
    have RE := readV_in hok hi hb
    unfold readV at RE
    rw [RE] at RD
    clear RE
    generalize preadV s F B at_ n = V at RD ⊢
    obtain ⟨V1, V2⟩ := V
    dsimp only at RD ⊢
    rw [hb] at PL
    have hwF : IntKind.i64.wrap (512 * F) = 512 * F := by rw [IntKind.wrap_i64]; omega
    have hwA : IntKind.i64.wrap (512 * F + at_) = 512 * F + at_ := by rw [inB_iff] at hb; rw [IntKind.wrap_i64]; omega
    clear c2 h1 h2 h3 h4 ba bn hi h hok hf hb
    go_enter Tryz.func51, Tryz.ntmps51
    go_wp2_with fail
    refine PL.out.mono ?_
    rintro e w1 ⟨rfl, rfl⟩
    clear PL
    go_wp2_with fail
    have ROW := Box.mk (show w.drew.heap[q]? = some (.cells #[.pointer (some ⟨p, 0, none⟩), .int .i64 F, .int .i64 B] 89 (0, 0)) from HP.out.row)
    refine wp_region_mix 16 [.flo, .flo, .flo, .flo, .flo, .flo, .flo, .flo, .flo, .flo, .flo, .flo, .flo, .cha, .flo, .flo] (by kernel_rfl) (by kernel_rfl) rfl ?_
    simp only [List.take, List.zip, List.zipWith]
    try go_frame
    refine gm_move (.tmp 0) (.inl rfl) (.pointer (some ⟨q, 0, none⟩)) rfl ?_
    try go_frame
    refine gm_flo (.pointer (some ⟨q, 0, none⟩)) (fun w1 hw1 => ?_) ?_
    case refine_1 =>
      go_simp
    try go_frame
    refine gm_flo (.pointer (some ⟨q, 0, none⟩)) (fun w1 hw1 => ?_) ?_
    case refine_1 =>
      go_simp
    try go_frame
    refine gm_flo (.pointer (some ⟨p, 0, none⟩)) (fun w1 hw1 => ?_) ?_
    case refine_1 =>
      have e1 : w1.cell? ⟨q, 0, none⟩ = some (.pointer (some ⟨p, 0, none⟩)) := (cell_of_row _ _ _ _ _ _ (hw1.at (by simp) ROW.out)).trans rfl
      go_simp
    try go_frame
    refine gm_move (.tmp 0) (.inl rfl) (.pointer (some ⟨q, 0, none⟩)) rfl ?_
    try go_frame
    refine gm_flo (.pointer (some ⟨q, 0, none⟩)) (fun w1 hw1 => ?_) ?_
    case refine_1 =>
      go_simp
    try go_frame
    refine gm_flo (.pointer (some ⟨q, 1, none⟩)) (fun w1 hw1 => ?_) ?_
    case refine_1 =>
      go_simp
    try go_frame
    refine gm_flo (.pointer (some ⟨q, 1, none⟩)) (fun w1 hw1 => ?_) ?_
    case refine_1 =>
      go_simp
    try go_frame
    refine gm_flo (.int .i64 F) (fun w1 hw1 => ?_) ?_
    case refine_1 =>
      have e1 : w1.cell? ⟨q, 1, none⟩ = some (.int .i64 F) := (cell_of_row _ _ _ _ _ _ (hw1.at (by simp) ROW.out)).trans rfl
      go_simp
    try go_frame
    refine gm_flo (.int .i64 (512 * F)) (fun w1 hw1 => ?_) ?_
    case refine_1 =>
      go_simp
    try go_frame
    refine gm_move (.tmp 1) (.inl rfl) (.int .i64 at_) rfl ?_
    try go_frame
    refine gm_flo (.int .i64 (512 * F + at_)) (fun w1 hw1 => ?_) ?_
    case refine_1 =>
      go_simp
    try go_frame
    refine gm_move (.tmp 2) (.inl rfl) (.int .i64 n) rfl ?_
    try go_frame
    refine gm_call [.pointer (some ⟨p, 0, none⟩), .int .i64 (512 * F + at_), .int .i64 n] (by kernel_rfl) rfl rfl Stb.tt (fun w1 hw1 hF1 => (RD.out w1 (HF.out.upd ((Upd.refl [] w).drew.trans hw1.upd) (by simp) (by simp) (by simp))).mono ?_)
    rintro e w2 ⟨rfl, rfl⟩
    refine ⟨_, rfl, Gr.refl _, ?_⟩
    clear hw1 hF1 w1
    try go_frame
    refine gm_extract (vs := #[.string V1, .int .i64 V2]) (.tmp 26) 0 rfl rfl (.string V1) rfl ?_
    try go_frame
    refine gm_extract (vs := #[.string V1, .int .i64 V2]) (.tmp 26) 1 rfl rfl (.int .i64 V2) rfl ?_
    try go_frame
    refine gm_nil ?_
    intro w9 hw9 hF9
    simp only [List.drop]
    try go_frame
    have HW9 := Box.mk ((Upd.refl [] w).drew.trans hw9.upd); clear hw9 hF9
    go_wp2
    go_ret2
    exact ⟨rfl, HW9.out⟩
  · have hb' : inB B at_ n = false := by simpa using hb
    have E : Box (preadV s F B at_ n = (⟨#[]⟩, 121)) := ⟨by unfold preadV; rw [hb']; rfl⟩
    generalize preadV s F B at_ n = V at E ⊢
    rw [hb'] at PL
    clear c1 c2 h1 h2 h3 h4 ba bn hi h hok hf hb c0 hb'
    obtain ⟨rfl⟩ := E
    go_enter Tryz.func51, Tryz.ntmps51
    go_wp2_with fail
    refine PL.out.mono ?_
    rintro e w1 ⟨rfl, rfl⟩
    clear PL
    go_wp2
    go_ret2
    exact ⟨rfl, Upd.refl _ _⟩
set_option maxHeartbeats 1000000 in
theorem rperase_any (q p bb cb : Nat) (F B : Int) (s : FS) (k : Int) (w : World) (hf : Fl 73 w p bb cb s) (hok : s.Ok) (h : RPa w q p F B) (hi : In s.n.length F B) :
    Calls Tryz.prog 75 #[.pointer (some ⟨q, 0, none⟩), .int .i64 k] w fun e w' => e = .returned (.int .i64 (s.perase F B k).2) ∧ Fl 73 w' p bb cb (s.perase F B k).1 ∧ Upd [p, bb, cb] w w' := by
  obtain ⟨c0, c1, c2⟩ := h.cells
  have HF := Box.mk hf
  by_cases g0 : k < 0
  · have g0' : decide (k < 0) = true := by simpa using g0
    have E : Box (s.perase F B k = (s, 121)) := ⟨by unfold FS.perase; rw [if_neg (by omega)]⟩
    obtain ⟨V, hV⟩ : ∃ V, V = s.perase F B k := ⟨_, rfl⟩
    rw [← hV] at E ⊢
    obtain ⟨rfl⟩ := E
    clear hV c0 c1 hi h hok hf g0
    go_enter Tryz.func75, Tryz.ntmps75
    go_wp2
    go_ret
    exact ⟨rfl, HF.out, Upd.refl _ _⟩
  · have g0' : decide (k < 0) = false := by simpa using g0
    by_cases g1 : k < B
    · have g1' : decide (B ≤ k) = false := by simpa using g1
      have hw : IntKind.i64.wrap (F + k) = F + k := by rw [IntKind.wrap_i64]; have := hi.lo; have := hi.hi; have := hi.few; omega
      have E : Box (s.perase F B k = s.erase (F + k)) := ⟨by unfold FS.perase; rw [if_pos (by omega)]⟩
      have ER := Box.mk (fun w h => rerase_any p bb cb s (F + k) w h hok)
      rw [← E.out] at ER
      generalize s.perase F B k = V at ER ⊢
      clear E hi h hok hf g0 g1
      go_enter Tryz.func75, Tryz.ntmps75
      go_wp2
      go_still_tail 11, (by kernel_rfl)
      change wpList _ _ _ _ _ w.drew
      go_wp2_with fail
      refine (ER.out _ (HF.out.upd (Upd.refl [] _).drew (by simp) (by simp) (by simp))).mono ?_
      rintro e w1 ⟨rfl, hf1, hu1⟩
      have HF1 := Box.mk hf1; have HU := Box.mk ((Upd.refl [p, bb, cb] w).drew.trans hu1); clear hf1 hu1
      go_wp2
      go_ret
      exact ⟨rfl, HF1.out, HU.out⟩
    · have g1' : decide (B ≤ k) = true := by simpa using g1
      have E : Box (s.perase F B k = (s, 121)) := ⟨by unfold FS.perase; rw [if_neg (by omega)]⟩
      obtain ⟨V, hV⟩ : ∃ V, V = s.perase F B k := ⟨_, rfl⟩
      rw [← hV] at E ⊢
      obtain ⟨rfl⟩ := E
      clear hV c0 c1 hi h hok hf g0 g1
      go_enter Tryz.func75, Tryz.ntmps75
      go_wp2
      go_ret
      exact ⟨rfl, HF.out, Upd.refl _ _⟩
end Go.Proofs.YtgcbmjflodgnbaaGreatDoor
namespace Go.Proofs.YtgcbmjflodgnbaaGreatDoor
set_option maxRecDepth 100000
set_option linter.unusedVariables false
open Go Go.RowKit

theorem ffs_yes (S : ByteArray) (h : ∀ k (hk : k < S.size), S[k] = 255) : (((ffs S : Nat) : Int) == ((S.size : Nat) : Int)) = true := by
  have : ffs S = S.size := by
    have := ffs_all S.data.toList (fun k hk => by
      have hk' : k < S.size := by simpa using hk
      rw [List.getElem?_eq_getElem hk]; exact congrArg some (h k hk'))
    simpa using this
  rw [beq_iff_eq, this]
theorem ffs_no (S : ByteArray) (k : Nat) (hk : k < S.size) (h : S[k] ≠ 255) : (((ffs S : Nat) : Int) == ((S.size : Nat) : Int)) = false := by
  rw [beq_eq_false_iff_ne]
  intro e
  have e : ffs S = S.size := by omega
  unfold ffs Lib.countByte at e
  have hl : S.data.toList.length = S.size := by simp
  rw [← hl] at e
  have := List.count_eq_length.1 e S[k] (List.getElem_mem (l := S.data.toList) (n := k) (by rw [hl]; exact hk))
  exact h this.symm
set_option maxHeartbeats 1000000 in
theorem rpclean_any (q p bb cb : Nat) (F B : Int) (s : FS) (at_ n : Int) (w : World) (hf : Fl 73 w p bb cb s) (hok : s.Ok) (h : RPa w q p F B) (hi : In s.n.length F B) (ba : -9223372036854775808 ≤ at_ ∧ at_ ≤ 9223372036854775807) (bn : -9223372036854775808 ≤ n ∧ n ≤ 9223372036854775807) :
    Calls Tryz.prog 53 #[.pointer (some ⟨q, 0, none⟩), .int .i64 at_, .int .i64 n] w fun e w' => e = .returned (.tuple #[.bool (pcleanV s F B at_ n).1, .int .i64 (pcleanV s F B at_ n).2]) ∧ Upd [] w w' := by
  have RD := Box.mk (rpread_any q p bb cb F B s at_ n w hf hok h hi ba bn)
  have SZ : Box ((preadV s F B at_ n).1.size ≤ 131072) := ⟨by
    have h1 := hok.len; have h2 := hok.few
    unfold preadV
    split
    · split
      · show (0 : Nat) ≤ _; omega
      · show ((s.b.drop _).take _).toArray.size ≤ _
        rw [List.size_toArray, List.length_take, List.length_drop]; omega
    · show (0 : Nat) ≤ _; omega⟩
  unfold pcleanV
  generalize preadV s F B at_ n = V at RD SZ ⊢
  obtain ⟨S, x⟩ := V
  dsimp only at RD SZ ⊢
  clear ba bn hi h hok hf
  by_cases hx : x = 0
  · subst hx
    rw [if_pos rfl]
    dsimp only
    have HY := Box.mk (ffs_yes S); have HN := Box.mk (ffs_no S)
    have hS := SZ.out
    generalize (((ffs S : Nat) : Int) == ((S.size : Nat) : Int)) = r at HY HN ⊢
    go_enter Tryz.func53, Tryz.ntmps53
    go_wp2_with fail
    refine RD.out.mono ?_
    rintro e w1 ⟨rfl, u1⟩
    have U1 := Box.mk u1; clear u1
    go_wp2_with fail
    go_loop [10] (fun i => ∃ k : Nat, k ≤ S.size ∧ i = .int .i64 k ∧ ∀ j (hj : j < S.size), j < k → S[j] = 255) (fun i => S.size - (intOf i).toNat)
    case atStart => exact ⟨0, by omega, rfl, fun j hj h => by omega⟩
    case round =>
      obtain ⟨k, hk, rfl, hall⟩ := hrel
      have HA := Box.mk hall; clear hall
      by_cases hlt : k < S.size
      · by_cases hb : S[k] = 255
        · have hb2 : ((S[k].toNat : Int) != 255) = false := by rw [hb]; rfl
          have HB := Box.mk hb; clear hb
          go_wp2
          go_round
          case rel => exact ⟨k + 1, by omega, by go_num, fun j hj h => by
            by_cases e : j = k
            · subst e; exact HB.out
            · exact HA.out j hj (by omega)⟩
          case measure => simp [intOf]; omega
        · have hb2 : ((S[k].toNat : Int) != 255) = true := by
            rw [bne_iff_ne]; intro e; apply hb; apply UInt8.toNat_inj.1; show _ = 255; omega
          have E := Box.mk (HN.out k hlt hb); clear hb
          go_wp2
          go_ret2
          exact ⟨by rw [E.out]; rfl, U1.out⟩
      · have E := Box.mk (HY.out (fun j hj => HA.out j hj (by omega)))
        go_wp2
        go_ret2
        exact ⟨by rw [E.out]; rfl, U1.out⟩
  · have hxb : (x != 0) = true := by rw [bne_iff_ne]; exact hx
    rw [if_neg hx]
    clear hx
    go_enter Tryz.func53, Tryz.ntmps53
    go_wp2_with fail
    refine RD.out.mono ?_
    rintro e w1 ⟨rfl, u1⟩
    have U1 := Box.mk u1; clear u1
    go_wp2
    go_ret2
    exact ⟨rfl, U1.out⟩

/-- What holds at the head of Write's loop. -/
structure WrS (t : TypeId) (w wr : World) (R : FS × Int) (s0 : FS) (l : List UInt8) (A p bb cb : Nat) (s : FS) (f i : Nat) : Prop where
  ok : s.Ok
  nn : s.n.length = s0.n.length
  fl : Fl t wr p bb cb s
  up : Upd [p, bb] w wr
  fi : f ≤ l.length ∧ 1 ≤ i ∧ i ≤ l.length + 1
  go : i ≤ l.length → f < i ∧ (i - f) ≤ 64 - (A + f) % 64
  en : i = l.length + 1 → f = l.length
  pw : ∃ k, l.length - f ≤ k ∧ FS.pw k s ((A + f : Nat) : Int) (l.drop f) = R
theorem ext_drop (t : ByteArray) (f i : Nat) (hi : i ≤ t.size) (hf : f ≤ i) : (t.extract f i).data.toList = (t.data.toList.drop f).take (i - f) := by
  rw [ByteArray.data_extract, Array.toList_extract, List.extract_eq_take_drop]
set_option maxRecDepth 100000 in
set_option maxHeartbeats 2000000 in
theorem rpwrite_any (q p bb cb : Nat) (F B : Int) (s : FS) (at_ : Int) (str : ByteArray) (w : World) (hf : Fl 73 w p bb cb s) (hok : s.Ok) (h : RPa w q p F B) (hi : In s.n.length F B) (hqb : q ≠ bb) (hqp : q ≠ p) (ba : -9223372036854775808 ≤ at_ ∧ at_ ≤ 9223372036854775807) (hs : str.size ≤ 9223372036854775807) :
    Calls Tryz.prog 76 #[.pointer (some ⟨q, 0, none⟩), .int .i64 at_, .string str] w fun e w' => e = .returned (.int .i64 (s.pwrite F B at_ str.data.toList).2) ∧ Fl 73 w' p bb cb (s.pwrite F B at_ str.data.toList).1 ∧ Upd [p, bb] w w' := by
  have PL := Box.mk (rin_any q p F B _ at_ str.size w h hi ba (by omega))
  have hlen : str.data.toList.length = str.size := by simp
  by_cases hb : inB B at_ str.size = true
  · have hin := hb
    rw [inB_iff] at hin
    rw [hb] at PL
    have h1 := hi.lo; have h2 := hi.hi; have h3 := hi.few
    obtain ⟨a, rfl⟩ : ∃ a : Nat, at_ = a := ⟨at_.toNat, by omega⟩
    obtain ⟨A, hA⟩ : ∃ A : Nat, 512 * F + (a : Int) = A := ⟨(512 * F + a).toNat, by omega⟩
    have E : s.pwrite F B a str.data.toList = FS.pw str.size s (A : Int) str.data.toList := by unfold FS.pwrite; rw [hlen, hb, if_pos rfl, hA]
    rw [E]
    obtain ⟨R, hR⟩ : ∃ R, R = FS.pw str.size s (A : Int) str.data.toList := ⟨_, rfl⟩
    rw [← hR]
    have ST0 := Box.mk (show WrS 73 w w R s str.data.toList A p bb cb s 0 1 from ⟨hok, rfl, hf, Upd.refl _ _, by omega, fun h => by omega, fun h => by omega, str.size, by omega, by rw [List.drop_zero]; exact hR.symm⟩)
    have HP := Box.mk h; have HA := Box.mk hA
    have hwF : IntKind.i64.wrap (512 * F) = 512 * F := by rw [IntKind.wrap_i64]; omega
    have hwA : IntKind.i64.wrap (512 * F + (a : Int)) = (A : Int) := by rw [IntKind.wrap_i64]; omega
    have hbd : a + str.size ≤ 131072 ∧ A + str.size ≤ 131072 ∧ (A : Int) % 64 = (a : Int) % 64 := by omega
    have HBD := Box.mk hbd
    have hsz : (str.size : Int) ≤ 131072 ∧ (a : Int) ≤ 131072 ∧ (A : Int) ≤ 131072 := by omega
    obtain ⟨hsz1, hsz2, hsz3⟩ := hsz
    clear E hb hlen hR hf h hok hi hin hs ba hA h1 h2 h3 hbd
    go_enter Tryz.func76, Tryz.ntmps76
    go_wp2_with fail
    refine PL.out.mono ?_
    rintro e w1 ⟨rfl, rfl⟩
    clear PL
    go_wp2_with fail
    go_loopw [7, 8] (fun x y wr => ∃ (f i : Nat) (s' : FS), x = .int .i64 f ∧ y = .int .i64 i ∧ WrS 73 w wr R s str.data.toList A p bb cb s' f i) (fun _ y _ => str.size + 1 - (intOf y).toNat)
    case atStart => exact ⟨0, 1, s, rfl, rfl, ST0.out⟩
    case round =>
      clear ST0
      obtain ⟨f, i, s', rfl, rfl, st⟩ := hrel
      have hlen : str.data.toList.length = str.size := by simp
      have hfi := st.fi
      rw [hlen] at hfi
      obtain ⟨hf1, hi1, hi2⟩ := hfi
      have ST := Box.mk st
      have CU := Box.mk (HP.out.upd st.up (by simp [hqp, hqb]))
      by_cases hle : i ≤ str.size
      · have hleI : (i : Int) ≤ (str.size : Int) := by omega
        have hw1 : IntKind.i64.wrap ((a : Int) + (i : Int)) = (a : Int) + (i : Int) := by rw [IntKind.wrap_i64]; omega
        obtain ⟨go1, go2⟩ := st.go (by rw [hlen]; exact hle)
        obtain ⟨k, hk, hpw⟩ := st.pw
        rw [hlen] at hk
        clear st
        by_cases hc : i < str.size ∧ (a + i) % 64 ≠ 0
        · have hc1 : (i : Int) < (str.size : Int) := by omega
          have hc2 : (((a : Int) + (i : Int)) % 64 != 0) = true := by rw [bne_iff_ne]; omega
          have ST2 := Box.mk (show WrS 73 w wr R s str.data.toList A p bb cb s' f (i + 1) from ⟨ST.out.ok, ST.out.nn, ST.out.fl, ST.out.up, by omega, fun _ => by have := HBD.out; omega, fun h => by omega, ST.out.pw⟩)
          clear hc hlen hk hpw go1 go2 ST
          go_wp2_with fail
          exact ⟨⟨f, i + 1, s', rfl, by go_num, ST2.out⟩, by simp [intOf]; omega⟩
        · obtain ⟨m, hm⟩ : ∃ m, m = i - f := ⟨_, rfl⟩
          have hmm : m = min (str.size - f) (64 - ((A + f : Nat) : Int) % 64).toNat := by have := HBD.out; omega
          obtain ⟨k', rfl⟩ : ∃ k', k = k' + 1 := ⟨k - 1, by omega⟩
          have hdl : (str.data.toList.drop f).length = str.size - f := by rw [List.length_drop, hlen]
          have hne : str.data.toList.drop f ≠ [] := by intro h; rw [h] at hdl; simp at hdl; omega
          have hmq : min (str.data.toList.drop f).length (64 - (((A + f : Nat) : Int) % 64).toNat) = m := by rw [hdl]; omega
          rw [FS.pw_step _ _ _ _ hne, hmq, List.drop_drop] at hpw
          have hul := ext_drop str f i hle (by omega)
          rw [← hm] at hul
          have hus : (str.extract f i).size = m := by rw [ByteArray.size_extract]; omega
          rw [← hul] at hpw
          have PR := Box.mk (fun w h => rprogram_any p bb cb s' ((A + f : Nat) : Int) (str.extract f i) w h ST.out.ok (by omega) (by omega))
          have OK2 := Box.mk (FS.program_ok ST.out.ok ((A + f : Nat) : Int) (str.extract f i).data.toList)
          have N2 := Box.mk (FS.program_n s' ((A + f : Nat) : Int) (str.extract f i).data.toList)
          have hw2 : IntKind.i64.wrap ((A : Int) + (f : Int)) = ((A + f : Nat) : Int) := by rw [IntKind.wrap_i64]; omega
          have hfm : f + m = i := by omega
          rw [hfm, show ((A + f : Nat) : Int) + (m : Nat) = ((A + i : Nat) : Int) from by omega] at hpw
          have hfi2 : (f : Int) ≤ (i : Int) := by omega
          have ROW := Box.mk (show wr.drew.heap[q]? = some (.cells #[.pointer (some ⟨p, 0, none⟩), .int .i64 F, .int .i64 B] 89 (0, 0)) from CU.out.row)
          have NQ : Box (q ∉ [p, bb]) := ⟨by simp [hqp, hqb]⟩
          have FD := Box.mk (ST.out.fl.upd (Upd.refl [] wr).drew (by simp) (by simp) (by simp))
          have LTS : Box (∀ k ∈ [p, bb], k < wr.heap.size) := ⟨by have := ST.out.fl.lt; intro k hk; simp at hk; omega⟩
          generalize s'.program ((A + f : Nat) : Int) (str.extract f i).data.toList = r at PR OK2 N2 hpw
          obtain ⟨r1, r2⟩ := r
          dsimp only at PR OK2 N2 hpw
          have HPW := Box.mk hpw; have HC := Box.mk hc; have HK := Box.mk hk; have GO := Box.mk (show i ≤ str.size ∧ f < i from ⟨hle, go1⟩)
          by_cases hc1 : i < str.size
          all_goals
            have hc1I : decide ((i : Int) < (str.size : Int)) = decide (i < str.size) := by rw [decide_eq_decide]; omega
            first
            | (have hcI : decide ((i : Int) < (str.size : Int)) = true := by simpa using hc1)
            | (have hcI : decide ((i : Int) < (str.size : Int)) = false := by simpa using hc1)
            have hc2 : i < str.size → (((a : Int) + (i : Int)) % 64 != 0) = false := fun h => by rw [bne_eq_false_iff_eq]; have := HC.out; omega
            first
            | (have hc3 := hc2 hc1)
            | skip
            clear hc2 hc1I hpw hul hus hmq hne hdl hmm hm hfm hc hk hlen go1 go2 hle
            go_upto_region 8 with (fail)
            refine wp_region_mixS [p, bb] (fun w => Fl 73 w p bb cb s') (fun w w' hg h => h.upd hg.upd (by simp) (by simp) (by simp)) (FD.out) (LTS.out) 19 [.flo, .flo, .flo, .flo, .flo, .flo, .flo, .flo, .flo, .flo, .flo, .flo, .flo, .flo, .flo, .flo, .flo, .flo, .cha] (by kernel_rfl) (by kernel_rfl) rfl ?_
            simp only [List.take, List.zip, List.zipWith]
            try go_frame
            refine gm_move (.tmp 0) (.inl rfl) (.pointer (some ⟨q, 0, none⟩)) rfl ?_
            try go_frame
            refine gm_flo (.pointer (some ⟨q, 0, none⟩)) (fun w1 hw1 => ?_) ?_
            case refine_1 =>
              go_simp
            try go_frame
            refine gm_flo (.pointer (some ⟨q, 0, none⟩)) (fun w1 hw1 => ?_) ?_
            case refine_1 =>
              go_simp
            try go_frame
            refine gm_flo (.pointer (some ⟨p, 0, none⟩)) (fun w1 hw1 => ?_) ?_
            case refine_1 =>
              have e1 : w1.cell? ⟨q, 0, none⟩ = some (.pointer (some ⟨p, 0, none⟩)) := (cell_of_row _ _ _ _ _ _ (hw1.at NQ.out ROW.out)).trans rfl
              go_simp
            try go_frame
            refine gm_move (.tmp 0) (.inl rfl) (.pointer (some ⟨q, 0, none⟩)) rfl ?_
            try go_frame
            refine gm_flo (.pointer (some ⟨q, 0, none⟩)) (fun w1 hw1 => ?_) ?_
            case refine_1 =>
              go_simp
            try go_frame
            refine gm_flo (.pointer (some ⟨q, 1, none⟩)) (fun w1 hw1 => ?_) ?_
            case refine_1 =>
              go_simp
            try go_frame
            refine gm_flo (.pointer (some ⟨q, 1, none⟩)) (fun w1 hw1 => ?_) ?_
            case refine_1 =>
              go_simp
            try go_frame
            refine gm_flo (.int .i64 F) (fun w1 hw1 => ?_) ?_
            case refine_1 =>
              have e1 : w1.cell? ⟨q, 1, none⟩ = some (.int .i64 F) := (cell_of_row _ _ _ _ _ _ (hw1.at NQ.out ROW.out)).trans rfl
              go_simp
            try go_frame
            refine gm_flo (.int .i64 (512 * F)) (fun w1 hw1 => ?_) ?_
            case refine_1 =>
              go_simp
            try go_frame
            refine gm_move (.tmp 1) (.inl rfl) (.int .i64 (a : Nat)) rfl ?_
            try go_frame
            refine gm_flo (.int .i64 (A : Nat)) (fun w1 hw1 => ?_) ?_
            case refine_1 =>
              go_simp
            try go_frame
            refine gm_move (.tmp 7) (.inl rfl) (.int .i64 (f : Nat)) rfl ?_
            try go_frame
            refine gm_flo (.int .i64 ((A + f : Nat) : Int)) (fun w1 hw1 => ?_) ?_
            case refine_1 =>
              go_simp
            try go_frame
            refine gm_move (.tmp 2) (.inl rfl) (.string str) rfl ?_
            try go_frame
            refine gm_move (.tmp 7) (.inl rfl) (.int .i64 (f : Nat)) rfl ?_
            try go_frame
            refine gm_move (.tmp 8) (.inl rfl) (.int .i64 (i : Nat)) rfl ?_
            try go_frame
            refine gm_flo (.string (str.extract f i)) (fun w1 hw1 => ?_) ?_
            case refine_1 =>
              go_simp
            try go_frame
            refine gm_callS [.pointer (some ⟨p, 0, none⟩), .int .i64 ((A + f : Nat) : Int), .string (str.extract f i)] (by kernel_rfl) rfl rfl (fun w1 hw1 hF1 => (PR.out _ hF1).mono ?_)
            rintro e w2 ⟨rfl, hf, hu⟩
            refine ⟨_, rfl, GrS.of_upd hu (by simp), (fun w => Fl 73 w p bb cb r1), (fun w w' hg h => h.upd hg.upd (by simp) (by simp) (by simp)), (hf), ?_⟩
            clear hw1 hF1 hf hu w1 w2
            try go_frame
            refine gm_nil ?_
            intro w9 hw9 hF9
            simp only [List.drop]
            try go_frame
            have H9 := Box.mk hF9; have U9 := Box.mk ((ST.out.up.trans (Upd.refl [p, bb] wr).drew).trans hw9.upd)
            clear hF9 hw9
            by_cases hr : r2 = 0
            · have hrb : (r2 != 0) = false := by simpa using hr
              have HR := Box.mk hr; clear hr
              go_wp2_with fail
              refine ⟨⟨i, i + 1, r1, rfl, by go_num, OK2.out, N2.out.trans ST.out.nn, H9.out, U9.out, by simp; have := GO.out; omega, fun h => by simp at h; omega, fun h => by simp at h ⊢; have := GO.out; omega, k', by simp; have := HK.out; have := GO.out; omega, ?_⟩, by simp [intOf]; have := GO.out; omega⟩
              have := HPW.out
              rw [if_neg (by rw [HR.out]; simp)] at this
              exact this
            · have hrb : (r2 != 0) = true := by rw [bne_iff_ne]; exact hr
              have HR : Box ((r1, r2) = R) := ⟨by have := HPW.out; rwa [if_pos hr] at this⟩
              clear hr HPW
              go_wp2_with fail
              go_ret
              obtain ⟨rfl⟩ := HR
              exact ⟨rfl, H9.out, U9.out⟩
      · have hen := st.en (by rw [hlen]; omega)
        obtain ⟨k, hk, hpw⟩ := st.pw
        rw [hen, List.drop_length, FS.pw_nil] at hpw
        have HR := Box.mk hpw
        have hleI : ¬ (i : Int) ≤ (str.size : Int) := by omega
        clear st hpw hk hen hlen
        go_wp2_with fail
        go_ret
        obtain ⟨rfl⟩ := HR
        exact ⟨rfl, ST.out.fl, ST.out.up⟩
  · have hb' : inB B at_ str.size = false := by simpa using hb
    have E : Box (s.pwrite F B at_ str.data.toList = (s, 121)) := ⟨by unfold FS.pwrite; rw [hlen, hb']; rfl⟩
    obtain ⟨R, hR⟩ : ∃ R, R = s.pwrite F B at_ str.data.toList := ⟨_, rfl⟩
    rw [← hR] at E ⊢
    obtain ⟨rfl⟩ := E
    have HF := Box.mk hf
    rw [hb'] at PL
    clear hR hlen hf h hok hi hs ba hb hb'
    go_enter Tryz.func76, Tryz.ntmps76
    go_wp2_with fail
    refine PL.out.mono ?_
    rintro e w1 ⟨rfl, rfl⟩
    clear PL
    go_wp2_with fail
    go_ret
    exact ⟨rfl, HF.out, Upd.refl _ _⟩
end Go.Proofs.YtgcbmjflodgnbaaGreatDoor
namespace Go.Proofs.YtgcbmjflodgnbaaGreatDoor
set_option maxRecDepth 100000
set_option linter.unusedVariables false
open Go Go.RowKit

theorem btold0 (t : BS) : t.told 0 = t := by unfold BS.told; simp
structure BCl (F b : Nat) (s : FS) (t : BS) (R : FS × BS × Int) : Prop where
  ok : R.1.Ok
  n : R.1.n.length = s.n.length
  len : R.1.b.length = s.b.length
  out : ∀ k, (k < 512 * (F + b) ∨ 512 * (F + b) + 512 ≤ k) → R.1.b[k]? = s.b[k]?
  res : (R.2.2 = 0 ∧ R.1.dead = false ∧ R.2.1 = t ∧ Er R.1.b (512 * (F + b)) 512) ∨ (R.2.2 = 2 ∧ R.1.dead = true ∧ R.2.1 = t.told 2 ∧ ∀ p, p < 8 → R.1.pg F b p = s.pg F b p ∨ cntB (R.1.pg F b p) = false)
  still : s.Still → R.2.2 = 0 ∧ R.1.Still ∧ (Er s.b (512 * (F + b)) 512 → R.1.n = s.n) ∧ (¬ Er s.b (512 * (F + b)) 512 → R.1.n = s.bump (F + b))
theorem pclean_block {s : FS} {F B b : Nat} (hd : s.dead = false) (hb : b < B) : pcleanV s F B ((512 * b : Nat) : Int) 512 = (((ffs ⟨(s.blk F b).toArray⟩ : Nat) : Int) == ((s.blk F b).length : Nat), 0) := by
  have hin2 : inB (B : Int) ((512 * b : Nat) : Int) 512 = true := by rw [inB_iff]; omega
  unfold pcleanV preadV
  rw [if_pos hin2, hd]
  simp only [Bool.false_eq_true, if_false, if_true]
  rw [show (512 * (F : Int) + ((512 * b : Nat) : Int)).toNat = 512 * (F + b) by omega]
  unfold FS.blk; rfl
theorem bclean_out {s : FS} {t : BS} {F b : Nat} (hd : s.dead = false) (hok : s.Ok) (hin : In s.n.length F 2) (hb : b < 2) : BCl F b s t (s.bclean F t b) := by
  have hhi := hin.hi
  have hlen := hok.len
  have hpv := pclean_block (s := s) (F := F) (B := 2) hd hb
  unfold FS.bclean FS.wclean
  rw [show ((2 : Int)) = ((2 : Nat) : Int) from rfl, hpv]
  dsimp only
  rw [if_neg (by decide)]
  have hbl := blk_len hok (F := F) (x := b) (by omega)
  by_cases hc : (((ffs ⟨(s.blk F b).toArray⟩ : Nat) : Int) == ((s.blk F b).length : Nat)) = true
  · rw [if_pos hc]
    have her : Er s.b (512 * (F + b)) 512 := fun k h1 h2 => by
      have := ffs_lt (s.blk F b) (beq_iff_eq.1 hc) (k - 512 * (F + b)) (by omega)
      rw [blk_at, if_pos (by omega), show 512 * (F + b) + (k - 512 * (F + b)) = k by omega] at this
      exact this
    exact ⟨hok, rfl, rfl, fun _ _ => rfl, .inl ⟨rfl, hd, btold0 _, her⟩, fun h => ⟨rfl, h, fun _ => rfl, fun h' => absurd her h'⟩⟩
  · rw [if_neg hc, perase_one hd hin hb]
    have hner : ¬ Er s.b (512 * (F + b)) 512 := fun her => hc (by
      have hall : ∀ k (hk : k < (s.blk F b).length), (s.blk F b)[k] = 255 := fun k hk => by
        have h1 := her (512 * (F + b) + k) (by omega) (by omega)
        have h2 : (s.blk F b)[k]? = some 255 := by rw [blk_at, if_pos (by omega)]; exact h1
        rw [List.getElem?_eq_getElem hk] at h2; exact Option.some.inj h2
      have hsz : (ByteArray.mk (s.blk F b).toArray).size = (s.blk F b).length := by show (s.blk F b).toArray.size = _; simp
      have := ffs_yes ⟨(s.blk F b).toArray⟩ (fun k hk => hall k (by rw [hsz] at hk; exact hk))
      rw [hsz] at this; exact this)
    dsimp only
    obtain ⟨ok1, n1, len1⟩ := er_ok hok (F + b)
    cases hg : s.goes with
    | true =>
      rw [toldI_t]
      refine ⟨ok1, n1, len1, er_out s _, .inr ⟨rfl, (er_dead hd _).trans hg, rfl, fun p hp => ?_⟩, fun h => ?_⟩
      · rw [er_bpage s F b p hp]; exact cnt_map _ _
      · rw [goes_still h] at hg; cases hg
    | false =>
      rw [toldI_f]
      exact ⟨ok1, n1, len1, er_out s _, .inl ⟨rfl, (er_dead hd _).trans hg, btold0 _, er_full hg (by omega)⟩, fun h => ⟨rfl, er_still h _, fun h' => absurd h' hner, fun _ => rfl⟩⟩
structure BKp (F b p n : Nat) (r : BR) (s : FS) (t : BS) (R : FS × BS × Int) : Prop where
  ok : R.1.Ok
  nn : R.1.n = s.n
  len : R.1.b.length = s.b.length
  out : ∀ k, (k < 512 * (F + b) + 64 * p ∨ 512 * (F + b) + 64 * p + 64 ≤ k) → R.1.b[k]? = s.b[k]?
  res : (R.2.2 = 0 ∧ R.1.dead = false ∧ R.2.1 = ⟨r, n, b, t.dead⟩ ∧ R.1.pg F b p = pageB r n) ∨ (R.2.2 = 2 ∧ R.1.dead = true ∧ R.2.1 = t.told 2 ∧ (cntB (R.1.pg F b p) = false ∨ R.1.pg F b p = pageB r n))
  still : s.Still → R.2.2 = 0 ∧ R.1.Still
theorem pageB_at (r : BR) (n k : Nat) (h : k < 64) : (pageB r n)[k]? = if k < 16 then (bodyB r n)[k]? else if k = 63 then some 0 else some 255 := by
  unfold pageB
  by_cases h7 : k < 16
  · rw [if_pos h7, List.getElem?_append_left (by rw [bodyB_len]; exact h7)]
  · rw [if_neg h7, List.getElem?_append_right (by rw [bodyB_len]; omega), bodyB_len]
    by_cases hk : k = 63
    · subst hk; rfl
    · rw [if_neg hk, List.getElem?_append_left (by rw [List.length_replicate]; omega), List.getElem?_replicate, if_pos (by omega)]
theorem bkeep_out {s : FS} {t : BS} {r : BR} {F b p n : Nat} (hd : s.dead = false) (hok : s.Ok) (hin : In s.n.length F 2) (hb : b < 2) (hp : p < 8) (he : Er s.b (512 * (F + b) + 64 * p) 64) : BKp F b p n r s t (s.bkeep F t r n b p) := by
  have hhi := hin.hi
  have hlen := hok.len
  have hw := lw_one (s := s) (F := F) (B := 2) (at_ := 512 * b + 64 * p) (l := bodyB r n) hd hok hin (by simp [bodyB]) (by rw [bodyB_len]; omega) (by rw [bodyB_len]; omega)
  unfold FS.bkeep FS.bwrite
  rw [show ((2 : Int)) = ((2 : Nat) : Int) from rfl, hw]
  dsimp only
  have hA : 512 * F + (512 * b + 64 * p) = 512 * (F + b) + 64 * p := by omega
  rw [hA]
  obtain ⟨A, hAd⟩ : ∃ A, A = 512 * (F + b) + 64 * p := ⟨_, rfl⟩
  rw [← hAd] at he ⊢
  obtain ⟨ok2, n2, len2⟩ := wr_ok hok A (bodyB r n)
  have hout2 : ∀ k, (k < A ∨ A + 16 ≤ k) → (s.wr A (bodyB r n)).b[k]? = s.b[k]? := fun k hk => wr_out s _ _ k (by rw [bodyB_len]; omega)
  have hcell : ∀ j c, (bodyB r n)[j]? = some c → (s.wr A (bodyB r n)).b[A + j]? = some (s.wb j c) := fun j c hc => by
    have hj := (List.getElem?_eq_some_iff.1 hc).1
    rw [bodyB_len] at hj
    exact wr_in s _ _ j c hc (he _ (by omega) (by omega))
  have hd2 : (s.wr A (bodyB r n)).dead = s.goes := wr_dead hd _ _
  have hst2 : s.Still → (s.wr A (bodyB r n)).Still := fun h => wr_still h _ _
  generalize s.wr A (bodyB r n) = s2 at ok2 n2 len2 hout2 hcell hd2 hst2 ⊢
  cases hg : s.goes with
  | true =>
    rw [toldI_t, if_pos (by decide)]
    refine ⟨ok2, n2, len2, fun k hk => hout2 k (by omega), .inr ⟨rfl, hd2.trans hg, rfl, .inl (cnt_no ?_)⟩, fun h => ?_⟩
    · rw [pg_at, if_pos (by omega), ← hAd, hout2 _ (by omega), he _ (by omega) (by omega)]; simp
    · rw [goes_still h] at hg; cases hg
  | false =>
    rw [toldI_f, if_neg (by decide), btold0]
    have hd2' : s2.dead = false := hd2.trans hg
    have hin2 : In s2.n.length F (2 : Nat) := by rw [n2]; exact hin
    have hw2 := lw_one (s := s2) (F := F) (B := 2) (at_ := 512 * b + 64 * p + 63) (l := [0]) hd2' ok2 hin2 (by simp) (by simp; omega) (by simp; omega)
    rw [hw2]
    dsimp only
    have hA7 : 512 * F + (512 * b + 64 * p + 63) = A + 63 := by omega
    rw [hA7]
    obtain ⟨ok3, n3, len3⟩ := wr_ok ok2 (A + 63) [0]
    have hout3 : ∀ k, k ≠ A + 63 → (s2.wr (A + 63) [0]).b[k]? = s2.b[k]? := fun k hk => wr_out s2 _ _ k (by simp; omega)
    have hz : (s2.wr (A + 63) [0]).b[A + 63]? = some (s2.wb 0 0) := by
      have := wr_in s2 (A + 63) [0] 0 0 rfl (by rw [Nat.add_zero, hout2 _ (by omega)]; exact he _ (by omega) (by omega))
      exact this
    have hd3 : (s2.wr (A + 63) [0]).dead = s2.goes := wr_dead hd2' _ _
    have hst3 : s2.Still → (s2.wr (A + 63) [0]).Still := fun h => wr_still h _ _
    generalize s2.wr (A + 63) [0] = s3 at ok3 n3 len3 hout3 hz hd3 hst3 ⊢
    have hout : ∀ k, (k < A ∨ A + 64 ≤ k) → s3.b[k]? = s.b[k]? := fun k hk => by rw [hout3 k (by omega), hout2 k (by omega)]
    have hfresh : s2.wb 0 0 = 0 → s3.pg F b p = pageB r n := fun h0 => by
      apply List.ext_getElem?; intro k
      rw [pg_at, ← hAd]
      split
      · rename_i hk
        rw [pageB_at r n k hk]
        split
        · rename_i h7
          rw [hout3 _ (by omega)]
          have hlt : k < (bodyB r n).length := by rw [bodyB_len]; exact h7
          rw [hcell k _ (List.getElem?_eq_getElem hlt), lwb_go hg, List.getElem?_eq_getElem hlt]
        · split
          · rename_i h7; subst h7; rw [hz, h0]
          · rw [hout3 _ (by omega), hout2 _ (by omega)]; exact he _ (by omega) (by omega)
      · rename_i hk
        rw [List.getElem?_eq_none (by rw [pageB_len]; omega)]
    cases hg2 : s2.goes with
    | true =>
      rw [toldI_t, if_pos (by decide)]
      refine ⟨ok3, by rw [n3, n2], len3.trans len2, fun k hk => hout k (by omega), .inr ⟨rfl, hd3.trans hg2, rfl, ?_⟩, fun h => ?_⟩
      · by_cases h0 : s2.wb 0 0 = 0
        · exact .inr (hfresh h0)
        · refine .inl (cnt_no ?_)
          rw [pg_at, if_pos (by omega), ← hAd, hz]; simpa using h0
      · rw [goes_still (hst2 h)] at hg2; cases hg2
    | false =>
      rw [toldI_f, if_neg (by decide), btold0]
      exact ⟨ok3, by rw [n3, n2], len3.trans len2, fun k hk => hout k (by omega), .inl ⟨rfl, hd3.trans hg2, rfl, hfresh (lwb_go hg2 0 0)⟩, fun h => ⟨rfl, hst3 (hst2 h)⟩⟩
theorem Er.sub {b : List UInt8} {A n A' n' : Nat} (h : Er b A n) (h1 : A ≤ A') (h2 : A' + n' ≤ A + n) : Er b A' n' := fun k h3 h4 => h k (by omega) (by omega)
theorem Er.ncnt {s : FS} {F b p : Nat} (h : Er s.b (512 * (F + b) + 64 * p) 64) : cntB (s.pg F b p) = false := by
  apply cnt_no
  rw [pg_at, if_pos (by omega), h _ (by omega) (by omega)]; simp
theorem bcl_er {s : FS} (hok : s.Ok) {F b p : Nat} (hF : F + b < s.n.length) (hp : p < 8) : s.bcl F (8 * b + p) = true ↔ Er s.b (512 * (F + b) + 64 * p) 64 := by
  have hlen := hok.len
  rw [bcl_iff]
  have e : 512 * F + 64 * (8 * b + p) = 512 * (F + b) + 64 * p := by omega
  rw [e]
  constructor
  · intro h k h1 h2
    have hk : k < s.b.length := by omega
    rw [List.getElem?_eq_getElem hk, h (k - (512 * (F + b) + 64 * p)) s.b[k] (by omega) (by rw [show 512 * (F + b) + 64 * p + (k - (512 * (F + b) + 64 * p)) = k by omega]; exact List.getElem?_eq_getElem hk)]
  · intro h k u hk hu
    rw [h _ (by omega) (by omega)] at hu; exact (Option.some.inj hu).symm
/-- What always holds of a store. -/
structure BInv (F : Nat) (s : FS) (t : BS) : Prop where
  by_ : BBy F s t.r t.seq t.block
  alive : s.dead = false
  live : t.dead = false
theorem out_pg {s s' : FS} {F A n : Nat} (h : ∀ k, (k < A ∨ A + n ≤ k) → s'.b[k]? = s.b[k]?) (j : Nat) (hj : 512 * F + 64 * j + 64 ≤ A ∨ A + n ≤ 512 * F + 64 * j) : s'.pg F 0 j = s.pg F 0 j :=
  pg_same fun k hk => h _ (by omega)
/-- A record is put. -/
theorem bput_out {F : Nat} {s : FS} {t : BS} {r : BR} (h : BInv F s t) (hr : r.May) (hn : t.seq + 1 < 281474976710656) :
    (s.Still → (s.bput F t r).2.2 = 0 ∧ (s.bput F t r).1.Still) ∧
    (((s.bput F t r).2.2 = 0 ∧ (s.bput F t r).2.1.r = r ∧ (s.bput F t r).2.1.seq = t.seq + 1 ∧ BInv F (s.bput F t r).1 (s.bput F t r).2.1) ∨
     ((s.bput F t r).2.2 = 2 ∧ (s.bput F t r).1.dead = true ∧ ∃ r' n' b', BBy F (s.bput F t r).1 r' n' b' ∧ n' ≤ t.seq + 1 ∧ (r' = t.r ∨ r' = r))) := by
  have hok := h.by_.ok; have hin := h.by_.inn; have hb := h.by_.b2; have hhi := hin.hi
  obtain ⟨f1, f2, f3⟩ := bfree_spec s F t.block 8
  unfold FS.bput
  rw [if_neg (by rw [(BR.may_iff r).2 hr]; decide), if_neg (by rw [h.live]; decide), if_neg (by rw [h.alive]; decide)]
  by_cases h8 : s.bfree F t.block 8 = 8
  · rw [if_pos h8]
    have CO := bclean_out (t := t) (b := 1 - t.block) h.alive hok hin (by omega)
    generalize s.bclean F t (1 - t.block) = c at CO ⊢
    obtain ⟨s1, t1, e1⟩ := c
    obtain ⟨ok1, n1, len1, out1, res1, st1⟩ := CO
    dsimp only at ok1 n1 len1 out1 res1 st1 ⊢
    have hsame : ∀ j, j < 16 → j / 8 ≠ 1 - t.block → s1.pg F 0 j = s.pg F 0 j := fun j hj hne => out_pg out1 j (by omega)
    rcases res1 with ⟨rfl, hd1, rfl, he1⟩ | ⟨rfl, hd1, rfl, hp1⟩
    · rw [if_neg (by decide)]
      have KO := bkeep_out (t := t1) (r := r) (n := t1.seq + 1) (p := 0) hd1 ok1 (by rw [n1]; exact hin) (show 1 - t1.block < 2 by omega) (by omega) (he1.sub (by omega) (by omega))
      generalize s1.bkeep F t1 r (t1.seq + 1) (1 - t1.block) 0 = K at KO ⊢
      obtain ⟨s2, t2, e2⟩ := K
      obtain ⟨ok2, n2, len2, out2, res2, st2⟩ := KO
      dsimp only at ok2 n2 len2 out2 res2 st2 ⊢
      have hpg : ∀ j, j < 16 → j ≠ 8 * (1 - t1.block) + 0 → s2.pg F 0 j = s.pg F 0 j ∨ (cntB (s2.pg F 0 j) = false ∧ j / 8 ≠ t1.block) := fun j hj hne => by
        have e : s2.pg F 0 j = s1.pg F 0 j := out_pg out2 j (by omega)
        rw [e]
        by_cases hjb : j / 8 = 1 - t1.block
        · refine .inr ⟨?_, by omega⟩
          have := Er.ncnt (s := s1) (F := F) (b := j / 8) (p := j % 8) (he1.sub (by omega) (by omega))
          rw [← pg_block s1 F (j / 8) (j % 8), show 8 * (j / 8) + j % 8 = j by omega] at this; exact this
        · exact .inl (hsame j hj hjb)
      have hnew : s2.pg F (1 - t1.block) 0 = pageB r (t1.seq + 1) → BBy F s2 r (t1.seq + 1) (1 - t1.block) := fun hq =>
        h.by_.new ok2 (by rw [n2, n1]) hr (by omega) (i := 0) (by omega) hn (fun j hj hne => (hpg j hj hne).imp id (·.1)) (by rw [pg_block]; exact hq)
      refine ⟨fun hs => st2 (st1 hs).2.1, ?_⟩
      rcases res2 with ⟨rfl, hd2, rfl, hq⟩ | ⟨rfl, hd2, rfl, hq⟩
      · exact .inl ⟨rfl, rfl, rfl, ⟨hnew hq, hd2, h.live⟩⟩
      · refine .inr ⟨rfl, hd2, ?_⟩
        rcases hq with hq | hq
        · refine ⟨t1.r, t1.seq, t1.block, h.by_.keep ok2 (by rw [n2, n1]) (fun j hj => ?_), by omega, .inl rfl⟩
          by_cases hne : j = 8 * (1 - t1.block) + 0
          · refine .inr ⟨by rw [hne, pg_block]; exact hq, .inl (by omega)⟩
          · exact (hpg j hj hne).imp id fun h' => ⟨h'.1, .inl h'.2⟩
        · exact ⟨_, _, _, hnew hq, Nat.le_refl _, .inr rfl⟩
    · rw [if_pos (by decide)]
      refine ⟨fun hs => absurd (st1 hs).1 (by decide), .inr ⟨rfl, hd1, t.r, t.seq, t.block, h.by_.keep ok1 n1 (fun j hj => ?_), by omega, .inl rfl⟩⟩
      by_cases hjb : j / 8 = 1 - t.block
      · have := hp1 (j % 8) (by omega)
        rw [← pg_block s1 F (1 - t.block) (j % 8), ← pg_block s F (1 - t.block) (j % 8), show 8 * (1 - t.block) + j % 8 = j by omega] at this
        exact this.imp id fun h' => ⟨h', .inl (by omega)⟩
      · exact .inl (hsame j hj hjb)
  · rw [if_neg h8]
    obtain ⟨k, hk⟩ : ∃ k, k = s.bfree F t.block 8 := ⟨_, rfl⟩
    rw [← hk] at f1 f2 h8 ⊢
    have her : Er s.b (512 * (F + t.block) + 64 * k) 64 := (bcl_er hok (by omega) (by omega)).1 (f2 k (Nat.le_refl _) (by omega))
    have KO := bkeep_out (t := t) (r := r) (n := t.seq + 1) (p := k) h.alive hok hin hb (by omega) her
    generalize s.bkeep F t r (t.seq + 1) t.block k = K at KO ⊢
    obtain ⟨s2, t2, e2⟩ := K
    obtain ⟨ok2, n2, len2, out2, res2, st2⟩ := KO
    dsimp only at ok2 n2 len2 out2 res2 st2 ⊢
    have hno := her.ncnt
    rw [← pg_block] at hno
    have hpg : ∀ j, j < 16 → j ≠ 8 * t.block + k → s2.pg F 0 j = s.pg F 0 j := fun j hj hne => out_pg out2 j (by omega)
    have hnew : s2.pg F t.block k = pageB r (t.seq + 1) → BBy F s2 r (t.seq + 1) t.block := fun hq =>
      h.by_.new ok2 (by rw [n2]) hr hb (i := k) (by omega) hn (fun j hj hne => .inl (hpg j hj hne)) (by rw [pg_block]; exact hq)
    refine ⟨st2, ?_⟩
    rcases res2 with ⟨rfl, hd2, rfl, hq⟩ | ⟨rfl, hd2, rfl, hq⟩
    · exact .inl ⟨rfl, rfl, rfl, ⟨hnew hq, hd2, h.live⟩⟩
    · refine .inr ⟨rfl, hd2, ?_⟩
      rcases hq with hq | hq
      · refine ⟨t.r, t.seq, t.block, h.by_.keep ok2 (by rw [n2]) (fun j hj => ?_), by omega, .inl rfl⟩
        by_cases hne : j = 8 * t.block + k
        · exact .inr ⟨by rw [hne, pg_block]; exact hq, .inr (by rw [hne]; exact hno)⟩
        · exact .inl (hpg j hj hne)
      · exact ⟨_, _, _, hnew hq, Nat.le_refl _, .inr rfl⟩
/-- What Format leaves, as long as the power stays. -/
theorem bformat_out {F : Nat} {s : FS} {r : BR} (hs : s.Still) (hok : s.Ok) (hin : In s.n.length F 2) (hr : r.May) :
    ∃ s', s.bformat F r = (s', ⟨r, 1, 0, false⟩, 0) ∧ s'.Still ∧ BInv F s' ⟨r, 1, 0, false⟩ ∧ (∀ p, 1 ≤ p → p < 16 → Er s'.b (512 * F + 64 * p) 64) ∧ s'.pg F 0 0 = pageB r 1 ∧
      (Er s.b (512 * F) 1024 → s'.n = s.n) := by
  have hhi := hin.hi
  unfold FS.bformat
  rw [if_neg (by rw [(BR.may_iff r).2 hr]; decide)]
  have A := bclean_out (t := ⟨BR.zero, 0, 0, false⟩) (b := 0) hs.dead hok hin (by omega)
  generalize s.bclean F ⟨BR.zero, 0, 0, false⟩ 0 = a at A ⊢
  obtain ⟨s1, t1, e1⟩ := a
  obtain ⟨ok1, n1, len1, out1, res1, st1⟩ := A
  dsimp only at ok1 n1 len1 out1 res1 st1 ⊢
  obtain ⟨rfl, st1', m1, _⟩ := st1 hs
  rcases res1 with ⟨_, hd1, rfl, he1⟩ | ⟨h, _⟩
  · rw [if_neg (by decide)]
    have hin1 : In s1.n.length F 2 := by rw [n1]; exact hin
    have C := bclean_out (t := ⟨BR.zero, 0, 0, false⟩) (b := 1) hd1 ok1 hin1 (by omega)
    generalize s1.bclean F ⟨BR.zero, 0, 0, false⟩ 1 = c at C ⊢
    obtain ⟨s2, t2, e2⟩ := c
    obtain ⟨ok2, n2, len2, out2, res2, st2⟩ := C
    dsimp only at ok2 n2 len2 out2 res2 st2 ⊢
    obtain ⟨rfl, st2', m2, _⟩ := st2 st1'
    rcases res2 with ⟨_, hd2, rfl, he2⟩ | ⟨h, _⟩
    · rw [if_neg (by decide)]
      have hin2 : In s2.n.length F 2 := by rw [n2]; exact hin1
      have he0 : Er s2.b (512 * F) 1024 := fun k h1 h2 => by
        by_cases hk : k < 512 * (F + 1)
        · rw [out2 k (by omega)]; exact he1 k (by omega) (by omega)
        · exact he2 k (by omega) (by omega)
      have K := bkeep_out (t := ⟨BR.zero, 0, 0, false⟩) (r := r) (n := 1) (p := 0) hd2 ok2 hin2 (show 0 < 2 by omega) (by omega) (he0.sub (by omega) (by omega))
      generalize s2.bkeep F ⟨BR.zero, 0, 0, false⟩ r 1 0 0 = k at K ⊢
      obtain ⟨s3, t3, e3⟩ := k
      obtain ⟨ok3, n3, len3, out3, res3, st3⟩ := K
      dsimp only at ok3 n3 len3 out3 res3 st3 ⊢
      obtain ⟨rfl, st3'⟩ := st3 st2'
      rcases res3 with ⟨_, hd3, rfl, hq⟩ | ⟨h, _⟩
      · have hcl : ∀ p, 1 ≤ p → p < 16 → Er s3.b (512 * F + 64 * p) 64 := fun p h1 h2 k h3 h4 => by
          rw [out3 k (by omega)]; exact he0 k (by omega) (by omega)
        obtain ⟨c1, c2, c3⟩ := cnt_page hr (Nat.le_refl 1) (by omega)
        refine ⟨s3, rfl, st3', ⟨⟨ok3, by rw [n3]; exact hin2, hr, Nat.le_refl _, by simp, 0, by omega, ?_⟩, hd3, rfl⟩, hcl, hq, fun he => ?_⟩
        · show cntB (s3.pg F 0 (8 * 0 + 0)) = true ∧ _
          rw [show 8 * 0 + 0 = 0 from rfl, hq]
          refine ⟨c1, c2, c3, fun j hj hne hc => ?_⟩
          have := Er.ncnt (s := s3) (F := F) (b := 0) (p := j) (by rw [Nat.add_zero]; exact hcl j (by simp at hne; omega) hj)
          rw [this] at hc; cases hc
        · rw [n3, m2 (fun k h1 h2 => by rw [out1 k (by omega)]; exact he k (by omega) (by omega)), m1 (he.sub (by omega) (by omega))]
      · cases h
    · cases h
  · cases h
end Go.Proofs.YtgcbmjflodgnbaaGreatDoor
namespace Go.Proofs.YtgcbmjflodgnbaaGreatDoor
set_option maxRecDepth 100000
set_option linter.unusedVariables false
open Go Go.RowKit

theorem pclean_page {s : FS} (hd : s.dead = false) (hok : s.Ok) {F b k : Nat} (hin : In s.n.length F 2) (hb : b < 2) (hk : k < 8) : pcleanV s F 2 ((512 * b + 64 * k : Nat) : Int) 64 = (s.bcl F (8 * b + k), 0) := by
  have hhi := hin.hi
  have hlen := hok.len
  have hin2 : inB 2 ((512 * b + 64 * k : Nat) : Int) 64 = true := by rw [inB_iff]; omega
  unfold pcleanV preadV
  rw [if_pos hin2, hd]
  simp only [Bool.false_eq_true, if_false, if_true]
  rw [show (512 * (F : Int) + ((512 * b + 64 * k : Nat) : Int)).toNat = 512 * (F + 0) + 64 * (8 * b + k) by omega]
  have e : ((s.b.drop (512 * (F + 0) + 64 * (8 * b + k))).take (64 : Int).toNat) = s.pg F 0 (8 * b + k) := rfl
  rw [e]
  have hl : (s.pg F 0 (8 * b + k)).length = 64 := by rw [pg_block]; exact pg_len hok (by omega) hk
  have hsz : (ByteArray.mk (s.pg F 0 (8 * b + k)).toArray).size = (s.pg F 0 (8 * b + k)).length := by show (s.pg F 0 (8 * b + k)).toArray.size = _; simp
  congr 1
  rw [Bool.eq_iff_iff]
  unfold FS.bcl
  rw [List.all_eq_true]
  constructor
  · intro h u hu
    obtain ⟨j, hj⟩ := List.getElem?_of_mem hu
    have h1 := ffs_lt _ (by have := beq_iff_eq.1 h; rw [hsz] at this; exact this) j (List.getElem?_eq_some_iff.1 hj).1
    rw [hj] at h1; exact beq_iff_eq.2 (Option.some.inj h1)
  · intro h
    exact ffs_yes _ (fun j hj => beq_iff_eq.1 (h _ (List.getElem_mem _)))
theorem pclean_dead {s : FS} (hd : s.dead = true) {F b k : Nat} (hb : b < 2) (hk : k < 8) : pcleanV s F 2 ((512 * b + 64 * k : Nat) : Int) 64 = (false, 2) := by
  have hin2 : inB 2 ((512 * b + 64 * k : Nat) : Int) 64 = true := by rw [inB_iff]; omega
  unfold pcleanV preadV
  rw [if_pos hin2, hd]; rfl
theorem bpclean_any (g q p bb cb F : Nat) (s : FS) (t : BS) (x : Int) (w : World) (h : BtS w F g q p bb cb s t) (ba : 0 ≤ x ∧ x ≤ 100000) :
    Calls Tryz.prog 60 #[.pointer (some ⟨q, 0, none⟩), .int .i64 x, .int .i64 64] w fun e w' => e = .returned (.tuple #[.bool (pcleanV s F 2 x 64).1, .int .i64 (pcleanV s F 2 x 64).2]) ∧ w = w' :=
  pclean_any q p bb cb F 2 s x 64 w h.f h.ok h.pa h.i (by omega) (by omega)
/-- What free answers. -/
def FS.bfreeV (s : FS) (F : Nat) (t : BS) : Value := if s.dead then .tuple #[.int .i64 8, .int .i64 2] else .tuple #[.int .i64 (s.bfree F t.block 8 : Int), .int .i64 0]
def FS.bfreeT (s : FS) (t : BS) : BS := if s.dead then t.told 2 else t
set_option maxHeartbeats 1000000 in
theorem bfree_any (g q p bb cb F : Nat) (s : FS) (t : BS) (w : World) (h : BtS w F g q p bb cb s t) (hb2 : t.block < 2) :
    Calls Tryz.prog 40 #[.pointer (some ⟨g, 0, none⟩)] w fun e w' => e = .returned (s.bfreeV F t) ∧ BtS w' F g q p bb cb s (s.bfreeT t) ∧ Upd [g] w w' := by
  obtain ⟨V, hV⟩ : ∃ V, V = s.bfreeV F t := ⟨_, rfl⟩
  rw [← hV]
  obtain ⟨T, hT⟩ : ∃ T, T = s.bfreeT t := ⟨_, rfl⟩
  rw [← hT]
  have HV := Box.mk (And.intro hV hT)
  have H := Box.mk h
  have HB := Box.mk hb2
  clear hV hT h
  go_enter Tryz.func40, Tryz.ntmps40
  go_wp2_with fail
  go_loopw [4] (fun i wr => ∃ j : Nat, j ≤ 8 ∧ i = .int .i64 (j : Int) ∧ BtS wr F g q p bb cb s t ∧ Upd [g] w wr ∧ s.bfree F t.block 8 = s.bfree F t.block j ∧ (s.dead = true → j = 8)) (fun i _ => (intOf i).toNat)
  case atStart => exact ⟨8, Nat.le_refl _, rfl, H.out, Upd.refl _ _, rfl, fun _ => rfl⟩
  case round =>
    clear H
    obtain ⟨j, hj, rfl, h1, hu, hf, hdj⟩ := hrel
    have H := Box.mk h1; have U := Box.mk hu; have HF := Box.mk hf; have HD := Box.mk hdj
    clear h1 hu hf hdj
    obtain ⟨c0, x1, x2, x3, x4, x5, x6, c7, x8⟩ := H.out.bt.cells
    clear x1 x2 x3 x4 x5 x6 x8
    cases j with
    | zero => as_aux_lemma =>
      have hdd : s.dead = false := by
        cases hd : s.dead with
        | false => rfl
        | true => have := HD.out hd; omega
      have E : Box (V = .tuple #[.int .i64 0, .int .i64 0] ∧ T = t) := ⟨by
        obtain ⟨h1, h2⟩ := HV.out
        have h3 := HF.out
        rw [show s.bfree F t.block 0 = 0 from rfl] at h3
        rw [h1, h2]; unfold FS.bfreeV FS.bfreeT
        rw [hdd, h3]; exact ⟨rfl, rfl⟩⟩
      clear hdd hb2 hj
      go_wp2_with fail
      go_ret2
      rw [E.out.1, E.out.2]
      exact ⟨rfl, H.out, U.out⟩
    | succ k => as_aux_lemma =>
      have hk8 : k < 8 := by omega
      have hw0 : IntKind.i64.wrap ((t.block : Int) * 512) = ((512 * t.block : Nat) : Int) := by rw [IntKind.wrap_i64]; omega
      have hw1 : IntKind.i64.wrap ((k : Int) * 64) = ((64 * k : Nat) : Int) := by rw [IntKind.wrap_i64]; omega
      have hw2 : IntKind.i64.wrap (((512 * t.block : Nat) : Int) + ((64 * k : Nat) : Int)) = ((512 * t.block + 64 * k : Nat) : Int) := by rw [IntKind.wrap_i64]; omega
      have hw3 : IntKind.i64.wrap (512 * (t.block : Int) + 64 * (k : Int)) = 512 * (t.block : Int) + 64 * (k : Int) := by rw [IntKind.wrap_i64]; omega
      have hwk : IntKind.i64.wrap (k : Int) = (k : Int) := by rw [IntKind.wrap_i64]; omega
      have ROW := Box.mk (show wr.drew.heap[g]? = _ from H.out.bt.row)
      have PC := Box.mk (fun w1 (h : BtS w1 F g q p bb cb s t) => bpclean_any g q p bb cb F s t ((512 * t.block + 64 * k : Nat) : Int) w1 h (by omega))
      have HX : Box (pcleanV s F 2 ((512 * t.block + 64 * k : Nat) : Int) 64 = if s.dead then (false, 2) else (s.bcl F (8 * t.block + k), 0)) := ⟨by
        cases hd : s.dead with
        | true => rw [if_pos rfl]; exact pclean_dead hd hb2 hk8
        | false => rw [if_neg (by decide)]; exact pclean_page hd H.out.ok H.out.i hb2 hk8⟩
      generalize pcleanV s F 2 ((512 * t.block + 64 * k : Nat) : Int) 64 = x at PC HX
      obtain ⟨x1, x2⟩ := x
      dsimp only at PC HX
      have TD := Box.mk (fun w1 (h : BtS w1 F g q p bb cb s t) e => btold_any g q t e w1 h.bt)
      clear hb2 hk8 c0 c7
      go_upto_region 4 with (fail)
      refine wp_region_mix 18 [.flo, .flo, .flo, .flo, .flo, .flo, .flo, .flo, .flo, .flo, .flo, .flo, .flo, .cha, .flo, .flo, .flo, .flo] (by kernel_rfl) (by kernel_rfl) rfl ?_
      simp only [List.take, List.zip, List.zipWith]
      try go_frame
      refine gm_move (.tmp 0) (.inl rfl) (.pointer (some ⟨g, 0, none⟩)) rfl ?_
      try go_frame
      refine gm_flo (.pointer (some ⟨g, 0, none⟩)) (fun w1 hw1 => ?_) ?_
      case refine_1 =>
        go_simp
      try go_frame
      refine gm_flo (.pointer (some ⟨g, 0, none⟩)) (fun w1 hw1 => ?_) ?_
      case refine_1 =>
        go_simp
      try go_frame
      refine gm_flo (.pointer (some ⟨q, 0, none⟩)) (fun w1 hw1 => ?_) ?_
      case refine_1 =>
        have e1 : w1.cell? ⟨g, 0, none⟩ = some (.pointer (some ⟨q, 0, none⟩)) := (cell_of_row _ _ _ _ _ _ (hw1.at (by simp) ROW.out)).trans rfl
        go_simp
      try go_frame
      refine gm_move (.tmp 0) (.inl rfl) (.pointer (some ⟨g, 0, none⟩)) rfl ?_
      try go_frame
      refine gm_flo (.pointer (some ⟨g, 0, none⟩)) (fun w1 hw1 => ?_) ?_
      case refine_1 =>
        go_simp
      try go_frame
      refine gm_flo (.pointer (some ⟨g, 7, none⟩)) (fun w1 hw1 => ?_) ?_
      case refine_1 =>
        go_simp
      try go_frame
      refine gm_flo (.int .i64 (t.block : Int)) (fun w1 hw1 => ?_) ?_
      case refine_1 =>
        have e1 : w1.cell? ⟨g, 7, none⟩ = some (.int .i64 (t.block : Int)) := (cell_of_row _ _ _ _ _ _ (hw1.at (by simp) ROW.out)).trans rfl
        go_simp
      try go_frame
      refine gm_flo (.int .i64 ((512 * t.block : Nat) : Int)) (fun w1 hw1 => ?_) ?_
      case refine_1 =>
        go_simp
      try go_frame
      refine gm_move (.tmp 4) (.inl rfl) (.int .i64 ((k : Int) + 1)) rfl ?_
      try go_frame
      refine gm_flo (.int .i64 (k : Int)) (fun w1 hw1 => ?_) ?_
      case refine_1 =>
        go_simp
      try go_frame
      refine gm_flo (.int .i64 ((64 * k : Nat) : Int)) (fun w1 hw1 => ?_) ?_
      case refine_1 =>
        go_simp
      try go_frame
      refine gm_flo (.int .i64 ((512 * t.block + 64 * k : Nat) : Int)) (fun w1 hw1 => ?_) ?_
      case refine_1 =>
        go_simp
      try go_frame
      refine gm_call [.pointer (some ⟨q, 0, none⟩), .int .i64 ((512 * t.block + 64 * k : Nat) : Int), .int .i64 64] (by kernel_rfl) rfl rfl Stb.tt (fun w1 hw1 hF1 => (PC.out w1 (H.out.keep ((Upd.refl [] wr).drew.trans hw1.upd))).mono ?_)
      rintro e w2 ⟨rfl, rfl⟩
      refine ⟨_, rfl, Gr.refl _, ?_⟩
      clear hw1 hF1 w1
      try go_frame
      refine gm_move (.tmp 25) (.inl rfl) (.tuple #[.bool x1, .int .i64 x2]) rfl ?_
      try go_frame
      refine gm_extract (vs := #[.bool x1, .int .i64 x2]) (.tmp 11) 0 rfl rfl (.bool x1) rfl ?_
      try go_frame
      refine gm_extract (vs := #[.bool x1, .int .i64 x2]) (.tmp 11) 1 rfl rfl (.int .i64 x2) rfl ?_
      try go_frame
      refine gm_move (.tmp 26) (.inr rfl) (.bool x1) rfl ?_
      try go_frame
      refine gm_nil ?_
      intro w9 hw9 hF9
      simp only [List.drop]
      try go_frame
      have U9 := Box.mk ((Upd.refl [] wr).drew.trans hw9.upd); clear hw9 hF9
      have H9 := Box.mk (H.out.keep U9.out)
      have U10 := Box.mk (U.out.trans (U9.out.mono (T := [g]) (by simp)))
      clear H U U9 ROW PC
      cases hd : s.dead with
      | true => as_aux_lemma =>
        have hx := HX.out
        rw [hd, if_pos rfl] at hx
        cases hx
        have hk7 : k = 7 := by have := HD.out hd; omega
        subst hk7
        have E : Box (V = .tuple #[.int .i64 8, .int .i64 2] ∧ T = t.told 2) := ⟨by
          obtain ⟨h1, h2⟩ := HV.out
          rw [h1, h2]; unfold FS.bfreeV FS.bfreeT
          rw [hd]; exact ⟨rfl, rfl⟩⟩
        clear hd HX hj hw0 hw1 hw2 hw3 hwk HV HF HD
        go_wp2_with fail
        refine (TD.out _ H9.out _).mono ?_
        rintro e w1 ⟨rfl, hl, hu⟩
        have H1 := Box.mk (H9.out.own hl hu); have U1 := Box.mk (U10.out.trans hu); clear hl hu
        go_wp2_with fail
        go_ret2
        rw [E.out.1, E.out.2]
        exact ⟨rfl, H1.out, U1.out⟩
      | false => as_aux_lemma =>
        have hx := HX.out
        rw [hd, if_neg (by decide)] at hx
        injection hx with hx1 hx2
        subst hx2
        clear hw0 hw1 hw2 hw3 hwk HX
        cases x1 with
        | true => as_aux_lemma =>
          have HFn : Box (s.bfree F t.block 8 = s.bfree F t.block k ∧ (s.dead = true → k = 8)) := ⟨by
            rw [HF.out, FS.bfree, if_pos hx1.symm]; exact ⟨rfl, fun h => by rw [hd] at h; cases h⟩⟩
          have hks : wrap64 (k : Int) = (k : Int) := by rw [IntWalk.wrap64_in] <;> omega
          have HJ := Box.mk hj
          clear hd hx1 HV HF HD hj
          go_wp2_with fail
          rw [hks]
          exact ⟨⟨k, by have := HJ.out; omega, rfl, H9.out, U10.out, HFn.out⟩, by simp [intOf]⟩
        | false => as_aux_lemma =>
          have E : Box (V = .tuple #[.int .i64 ((k + 1 : Nat) : Int), .int .i64 0] ∧ T = t) := ⟨by
            obtain ⟨h1, h2⟩ := HV.out
            have h3 := HF.out
            have h4 : s.bfree F t.block (k + 1) = k + 1 := by rw [FS.bfree, if_neg (by rw [← hx1]; decide)]
            rw [h4] at h3
            rw [h1, h2]; unfold FS.bfreeV FS.bfreeT
            rw [hd, h3]; exact ⟨rfl, rfl⟩⟩
          clear hd hx1 HV HF HD hj
          go_wp2_with fail
          refine (TD.out _ H9.out _).mono ?_
          rintro e w1 ⟨rfl, hl, hu⟩
          rw [btold0] at hl
          have H1 := Box.mk (H9.out.own hl hu); have U1 := Box.mk (U10.out.trans hu); clear hl hu
          go_wp2_with fail
          go_ret2
          rw [E.out.1, E.out.2]
          exact ⟨rfl, H1.out, U1.out⟩
end Go.Proofs.YtgcbmjflodgnbaaGreatDoor
namespace Go.Proofs.YtgcbmjflodgnbaaGreatDoor
set_option maxRecDepth 100000
set_option linter.unusedVariables false
open Go Go.RowKit

set_option maxHeartbeats 2000000 in
theorem bput_any (g q p bb cb F : Nat) (s : FS) (t : BS) (r : BR) (w : World) (h : BtS w F g q p bb cb s t) (hb2 : t.block < 2) (hn : t.seq + 1 < 281474976710656) :
    Calls Tryz.prog 12 #[.pointer (some ⟨g, 0, none⟩), brV r] w fun e w' => e = .returned (.int .i64 (s.bput F t r).2.2) ∧ BtS w' F g q p bb cb (s.bput F t r).1 (s.bput F t r).2.1 ∧ Upd [g, p, bb, cb] w w' := by
  obtain ⟨V, hV⟩ : ∃ V, V = s.bput F t r := ⟨_, rfl⟩
  rw [← hV]
  unfold FS.bput at hV
  have MA := Box.mk (fun w => may_any r w)
  obtain ⟨b0, hb0⟩ : ∃ b0, b0 = w.heap.size := ⟨_, rfl⟩
  have LT0 := h.f.lt; have LT1 := h.bt.lt; have LT2 := h.pa.lt
  have NB := Box.mk (show b0 ∉ [g, p, bb, cb] ∧ b0 ≠ g from ⟨by simp only [List.mem_cons, List.not_mem_nil, or_false, not_or]; omega, by omega⟩)
  have ROW0 := Box.mk (show (w.alloc (.cells (brC r) 24)).heap[b0]? = some (.cells (brC r) 24 (0, 0)) from by rw [hb0]; exact heap_alloc_new _ _)
  have H0 := Box.mk (h.keep ((Upd.refl [] w).alloc (.cells (brC r) 24)))
  have U0 := Box.mk ((Upd.refl [g, p, bb, cb] w).alloc (.cells (brC r) 24))
  have HB := Box.mk hb2; have HN := Box.mk hn
  clear h LT0 LT1 LT2 hb2 hn
  unfold brV brC at *
  cases hm : r.may with
  | false => as_aux_lemma =>
    rw [if_pos hm] at hV
    rw [hm] at MA
    subst hV
    clear hm ROW0
    go_enter Tryz.func12, Tryz.ntmps12
    go_upto_region 1 with (fail)
    have B1 : Box (Below (w.alloc (.cells #[.int .i64 r.slot, .bool r.up, .int .i64 r.count, .int .i64 r.s0, .int .i64 r.s1] 24)).heap.size (w.alloc (.cells #[.int .i64 r.slot, .bool r.up, .int .i64 r.count, .int .i64 r.s0, .int .i64 r.s1] 24)) (w.alloc (.cells #[.int .i64 r.slot, .bool r.up, .int .i64 r.count, .int .i64 r.s0, .int .i64 r.s1] 24))) := ⟨Below.refl _ _⟩
    go_wp2_with fail
    refine (MA.out _).mono ?_
    rintro e w1 ⟨rfl, hb⟩
    have H1 := Box.mk (H0.out.keep (Upd.of_below hb)); have U1 := Box.mk (U0.out.trans (Upd.of_below (S := [g, p, bb, cb]) hb)); clear hb
    go_wp2_with fail
    go_ret
    exact ⟨rfl, H1.out, U1.out⟩
  | true => as_aux_lemma =>
    rw [if_neg (by rw [hm]; decide)] at hV
    rw [hm] at MA
    have HMAY := Box.mk ((BR.may_iff r).1 hm)
    clear hm
    cases hd : t.dead with
    | true => as_aux_lemma =>
      rw [if_pos hd] at hV
      subst hV
      clear ROW0
      go_enter Tryz.func12, Tryz.ntmps12
      go_wp2_with fail
      refine (MA.out _).mono ?_
      rintro e w1 ⟨rfl, hb⟩
      have H1 := Box.mk (H0.out.keep (Upd.of_below hb)); have U1 := Box.mk (U0.out.trans (Upd.of_below (S := [g, p, bb, cb]) hb)); clear hb
      have c8 := H1.out.bt.cells.2.2.2.2.2.2.2.2
      rw [hd] at c8
      clear hd
      go_wp2_with fail
      go_ret
      exact ⟨rfl, H1.out, U1.out⟩
    | false => as_aux_lemma =>
      rw [if_neg (by rw [hd]; decide)] at hV
      have FR := Box.mk (fun w (h : BtS w F g q p bb cb s t) => bfree_any g q p bb cb F s t w h HB.out)
      go_enter Tryz.func12, Tryz.ntmps12
      go_wp2_with fail
      refine (MA.out _).mono ?_
      rintro e w1 ⟨rfl, hb⟩
      have H1 := Box.mk (H0.out.keep (Upd.of_below hb)); have U1 := Box.mk (U0.out.trans (Upd.of_below (S := [g, p, bb, cb]) hb))
      have ROW1 := Box.mk ((hb.block b0 (Array.getElem?_eq_some_iff.1 ROW0.out).1).trans ROW0.out)
      clear hb ROW0 H0 U0 MA
      have c8 := H1.out.bt.cells.2.2.2.2.2.2.2.2
      rw [hd] at c8
      rw [← hb0]
      clear hb0
      go_wp2_with fail
      refine (FR.out _ H1.out).mono ?_
      rintro e w2 ⟨rfl, hl, hu⟩
      have H2 := Box.mk hl; have U2 := Box.mk (U1.out.trans (hu.mono (T := [g, p, bb, cb]) (by simp)))
      have ROW2 := Box.mk ((hu.block b0 (Array.getElem?_eq_some_iff.1 ROW1.out).1 (by rw [List.mem_singleton]; exact NB.out.2)).trans ROW1.out)
      clear hl hu ROW1 H1 U1 FR c8
      unfold FS.bfreeV FS.bfreeT at *
      cases hsd : s.dead with
      | true => as_aux_lemma =>
        rw [hsd, if_pos rfl] at hV H2
        rw [if_pos rfl]
        subst hV
        clear hd hsd ROW2
        go_wp2_with fail
        go_ret
        exact ⟨rfl, H2.out, U2.out⟩
      | false => as_aux_lemma =>
        rw [hsd, if_neg (by decide)] at hV H2
        rw [if_neg (by decide)]
        clear hsd
        obtain ⟨k, hk⟩ : ∃ k, k = s.bfree F t.block 8 := ⟨_, rfl⟩
        have hk8 : k ≤ 8 := by rw [hk]; exact (bfree_spec s F t.block 8).1
        rw [← hk] at hV
        rw [← hk]
        clear hk
        have c7 := H2.out.bt.cells.2.2.2.2.2.2.2.1
        obtain ⟨m, hm⟩ : ∃ m, m = t.seq + 1 := ⟨_, rfl⟩
        have hseq : IntKind.i64.wrap ((t.seq : Int) + 1) = (m : Int) := by have := HN.out; rw [IntKind.wrap_i64]; omega
        have HN := Box.mk (show m < 281474976710656 by rw [hm]; exact HN.out)
        rw [← hm] at hV
        by_cases h8 : k = 8
        · rw [if_pos h8] at hV
          subst h8
          have CL := Box.mk (fun w (h : BtS w F g q p bb cb s t) => bclean_any g q p bb cb F s t (1 - t.block) w h (by omega))
          obtain ⟨c, hc⟩ : ∃ c, c = s.bclean F t (1 - t.block) := ⟨_, rfl⟩
          rw [← hc] at CL hV
          have SEQ : Box (c.2.1.seq = t.seq) := ⟨by rw [hc]; rfl⟩
          clear hc
          obtain ⟨s1, t1, e1⟩ := c
          dsimp only at CL hV SEQ
          obtain ⟨nb, hnb⟩ : ∃ nb : Nat, nb = 1 - t.block := ⟨_, rfl⟩
          rw [← hnb] at CL hV
          have hw0 : wrap64 (1 - (t.block : Int)) = (nb : Int) := by have := HB.out; rw [IntWalk.wrap64_in] <;> omega
          have HNB := Box.mk (show nb < 2 by omega)
          clear hnb
          go_wp2_with fail
          rw [hw0]
          refine (CL.out _ H2.out).mono ?_
          rintro e w3 ⟨rfl, hl, hu⟩
          have H3 := Box.mk hl; have U3 := Box.mk (U2.out.trans hu)
          have ROW3 := Box.mk ((hu.block b0 (Array.getElem?_eq_some_iff.1 ROW2.out).1 NB.out.1).trans ROW2.out)
          clear hl hu ROW2 H2 U2 CL c7 hw0
          by_cases he : e1 = 0
          · have heb : (e1 != 0) = false := by simpa using he
            rw [if_neg (by simpa using he)] at hV
            have HM := Box.mk hV
            have hsq1 : IntKind.i64.wrap ((t1.seq : Int) + 1) = (m : Int) := by rw [SEQ.out]; exact hseq
            clear hV he hseq hm
            have KP := Box.mk (fun w (h : BtS w F g q p bb cb s1 t1) => bkeep_any g q p bb cb F s1 t1 r m nb 0 w h HMAY.out HN.out HNB.out (by omega))
            rw [show ((0 : Nat) : Int) = 0 from rfl] at KP
            have RG := Box.mk (show w3.drew.heap[g]? = _ from H3.out.bt.row)
            have RB := Box.mk (show w3.drew.heap[b0]? = _ from ROW3.out)
            go_upto_region 14 with (fail)
            refine wp_region_mix 9 [.flo, .flo, .flo, .flo, .flo, .flo, .flo, .flo, .flo] (by kernel_rfl) (by kernel_rfl) rfl ?_
            simp only [List.take, List.zip, List.zipWith]
            try go_frame
            refine gm_move (.tmp 0) (.inl rfl) (.pointer (some ⟨g, 0, none⟩)) rfl ?_
            try go_frame
            refine gm_loadS (.tmp 3) rfl b0 (brC r) 24 (0, 0) _ RB.out (by simp) rfl Tryz.underlying24 rfl (by kernel_rfl) ?_
            try go_frame
            refine gm_move (.tmp 0) (.inl rfl) (.pointer (some ⟨g, 0, none⟩)) rfl ?_
            try go_frame
            refine gm_flo (.pointer (some ⟨g, 0, none⟩)) (fun w1 hw1 => ?_) ?_
            case refine_1 =>
              go_simp
            try go_frame
            refine gm_flo (.pointer (some ⟨g, 6, none⟩)) (fun w1 hw1 => ?_) ?_
            case refine_1 =>
              go_simp
            try go_frame
            refine gm_flo (.int .i64 ((t1).seq : Int)) (fun w1 hw1 => ?_) ?_
            case refine_1 =>
              have e1 : w1.cell? ⟨g, 6, none⟩ = some (.int .i64 ((t1).seq : Int)) := (cell_of_row _ _ _ _ _ _ (hw1.at (by simp) RG.out)).trans rfl
              go_simp
            try go_frame
            refine gm_flo (.int .i64 (m : Int)) (fun w1 hw1 => ?_) ?_
            case refine_1 =>
              go_simp
            try go_frame
            refine gm_move (.tmp 7) (.inl rfl) (.int .i64 (nb : Int)) rfl ?_
            try go_frame
            refine gm_move (.tmp 5) (.inl rfl) (.int .i64 0) rfl ?_
            try go_frame
            refine gm_nil ?_
            intro w9 hw9 hF9
            simp only [List.drop]
            try go_frame
            have U9 := Box.mk ((Upd.refl [] w3).drew.trans hw9.upd); clear hw9 hF9
            have H9 := Box.mk (H3.out.keep U9.out)
            have UA := Box.mk (U3.out.trans (U9.out.mono (T := [g, p, bb, cb]) (by simp)))
            clear RG RB H3 U9 ROW3 U3
            go_wp2_with fail
            refine (KP.out _ H9.out).mono ?_
            rintro e w2 ⟨rfl, hl, hu⟩
            have H10 := Box.mk hl; have U10 := Box.mk (UA.out.trans hu); clear hl hu H9 UA
            go_wp2_with fail
            go_ret
            rw [HM.out]; exact ⟨rfl, H10.out, U10.out⟩
          · have heb : (e1 != 0) = true := by rw [bne_iff_ne]; exact he
            rw [if_pos (by simpa using he)] at hV
            subst hV
            clear he
            go_wp2_with fail
            go_ret
            exact ⟨rfl, H3.out, U3.out⟩
        · rw [if_neg h8] at hV
          have h8b : (((k : Nat) : Int) == 8) = false := by rw [beq_eq_false_iff_ne]; omega
          have HM := Box.mk hV
          have KP := Box.mk (fun w (h : BtS w F g q p bb cb s t) => bkeep_any g q p bb cb F s t r m t.block k w h HMAY.out HN.out HB.out (by omega))
          clear hV h8 hk8 hm
          have RG := Box.mk (show w2.drew.heap[g]? = _ from H2.out.bt.row)
          have RB := Box.mk (show w2.drew.heap[b0]? = _ from ROW2.out)
          go_upto_region 14 with (fail)
          refine wp_region_mix 9 [.flo, .flo, .flo, .flo, .flo, .flo, .flo, .flo, .flo] (by kernel_rfl) (by kernel_rfl) rfl ?_
          simp only [List.take, List.zip, List.zipWith]
          try go_frame
          refine gm_move (.tmp 0) (.inl rfl) (.pointer (some ⟨g, 0, none⟩)) rfl ?_
          try go_frame
          refine gm_loadS (.tmp 3) rfl b0 (brC r) 24 (0, 0) _ RB.out (by simp) rfl Tryz.underlying24 rfl (by kernel_rfl) ?_
          try go_frame
          refine gm_move (.tmp 0) (.inl rfl) (.pointer (some ⟨g, 0, none⟩)) rfl ?_
          try go_frame
          refine gm_flo (.pointer (some ⟨g, 0, none⟩)) (fun w1 hw1 => ?_) ?_
          case refine_1 =>
            go_simp
          try go_frame
          refine gm_flo (.pointer (some ⟨g, 6, none⟩)) (fun w1 hw1 => ?_) ?_
          case refine_1 =>
            go_simp
          try go_frame
          refine gm_flo (.int .i64 ((t).seq : Int)) (fun w1 hw1 => ?_) ?_
          case refine_1 =>
            have e1 : w1.cell? ⟨g, 6, none⟩ = some (.int .i64 ((t).seq : Int)) := (cell_of_row _ _ _ _ _ _ (hw1.at (by simp) RG.out)).trans rfl
            go_simp
          try go_frame
          refine gm_flo (.int .i64 (m : Int)) (fun w1 hw1 => ?_) ?_
          case refine_1 =>
            go_simp
          try go_frame
          refine gm_move (.tmp 7) (.inl rfl) (.int .i64 (t.block : Int)) rfl ?_
          try go_frame
          refine gm_move (.tmp 5) (.inl rfl) (.int .i64 (k : Int)) rfl ?_
          try go_frame
          refine gm_nil ?_
          intro w9 hw9 hF9
          simp only [List.drop]
          try go_frame
          have U9 := Box.mk ((Upd.refl [] w2).drew.trans hw9.upd); clear hw9 hF9
          have H9 := Box.mk (H2.out.keep U9.out)
          have UA := Box.mk (U2.out.trans (U9.out.mono (T := [g, p, bb, cb]) (by simp)))
          clear RG RB H2 U9 ROW2 U2
          go_wp2_with fail
          refine (KP.out _ H9.out).mono ?_
          rintro e w2 ⟨rfl, hl, hu⟩
          have H10 := Box.mk hl; have U10 := Box.mk (UA.out.trans hu); clear hl hu H9 UA
          go_wp2_with fail
          go_ret
          rw [HM.out]; exact ⟨rfl, H10.out, U10.out⟩
end Go.Proofs.YtgcbmjflodgnbaaGreatDoor
namespace Go.Proofs.YtgcbmjflodgnbaaGreatDoor
set_option maxRecDepth 100000
set_option linter.unusedVariables false
open Go.RowKit Go.Extern.Stop Go.Stop Go.Extern

theorem isTypeOf (v : Value) (w : World) : (Extern.ReflectliteType.typeOf #[.iface 152 v]).run Tryz.prog w = .ok (.iface 130 (.agg #[.pointer (some ⟨2, 152, none⟩)])) w := by kernel_rfl
theorem isComparable (w : World) : ((Extern.ReflectliteType.method fun t => do Go.Extern.Rtype.noPackHeld "Comparable" t; (fun a => Value.bool a.comparable) <$> typeInfo t) #[.agg #[.pointer (some ⟨2, 152, none⟩)]]).run Tryz.prog w = .ok (.bool true) w := by kernel_rfl
theorem isMethodComparable (v : Value) (w : World) : (Go.method 285 130 v "Comparable").run Tryz.prog w = .ok (129, v) w := by kernel_rfl
theorem isComp : (Tryz.prog.info? 152).map (·.comparable) = some true := by kernel_rfl
theorem isSize : (Tryz.prog.info? 174).map (·.size) = some 1 := by kernel_rfl
/-- errors.Is(x, x), x a pointer to an errors.errorString. -/
theorem is_same (a : Addr) (w : World) :
    Calls Tryz.prog 49 #[.iface 152 (.pointer (some a)), .iface 152 (.pointer (some a))] w fun e w' => e = .returned (.bool true) ∧ w' = w := by
  obtain ⟨i, hi, hcmp⟩ := Option.map_eq_some_iff.1 isComp
  obtain ⟨j, hj, hjs⟩ := Option.map_eq_some_iff.1 isSize
  have h8 := @run_callFunc_extern Tryz.prog 69 _ Extern.ReflectliteType.typeOf Tryz.func69 (by kernel_rfl) (by kernel_rfl) (by kernel_rfl) (by kernel_rfl)
  have h32 := @run_callFunc_extern Tryz.prog 129 _ (Extern.ReflectliteType.method fun t => do Go.Extern.Rtype.noPackHeld "Comparable" t; pure (.bool (← typeInfo t).comparable)) Tryz.func129 (by kernel_rfl) (by kernel_rfl) (by kernel_rfl) (by kernel_rfl)
  have tT := isTypeOf
  have cT := isComparable
  have mR := isMethodComparable
  have heq := run_eql_iface_ptr_same (P := Tryz.prog) w a Tryz.underlying93 Tryz.underlying152 hi hcmp hj
  go_enter Tryz.func49, Tryz.ntmps49
  go_wp2
  refine wp_loop_rounds 1 ?_
  rw [rounds_succ]
  go_wp2
  go_ret
  exact ⟨rfl, rfl⟩
/-- errors.Is(nil, x). -/
theorem is_nil (b : Addr) (w : World) :
    Calls Tryz.prog 49 #[.nilIface, .iface 152 (.pointer (some b))] w fun e w' => e = .returned (.bool false) ∧ w' = w := by
  have hn := run_eql_iface_nil_left (P := Tryz.prog) w 152 (.pointer (some b)) Tryz.underlying93
  go_enter Tryz.func49, Tryz.ntmps49
  go_wp2
  go_ret
  exact ⟨rfl, rfl⟩
/-- The sentinel's variable holds what errors.New made. -/
def ErrAt (w : World) (a : Addr) : Prop := w.cell? ⟨0, 0, none⟩ = some (.iface 152 (.pointer (some a)))
end Go.Proofs.YtgcbmjflodgnbaaGreatDoor
