/- The document's part of a flash: size, in, read, erase, count, clean. -/
import Derived.Test.YtaeomiedmjedgaaPartC
import Derived.Test.YtaeomiedmjedgaaFlashRefC
import Derived.Test.YtaeomiedmjedgaaMixU
namespace Go.Proofs.Ytaeomiedmjedgaa
set_option linter.unusedVariables false
open Go Go.RowKit

/-- The document's part lies at q: of the flash at p, from block F on, B blocks. -/
structure RPa (w : World) (q p : Nat) (F B : Int) : Prop where
  row : w.heap[q]? = some (.cells #[.pointer (some ⟨p, 0, none⟩), .int .i64 F, .int .i64 B] 80 (0, 0))
theorem RPa.cells {w : World} {q p : Nat} {F B : Int} (h : RPa w q p F B) : w.cell? ⟨q, 0, none⟩ = some (.pointer (some ⟨p, 0, none⟩)) ∧ w.cell? ⟨q, 1, none⟩ = some (.int .i64 F) ∧ w.cell? ⟨q, 2, none⟩ = some (.int .i64 B) := by
  refine ⟨?_, ?_, ?_⟩ <;> (rw [cell_of_row _ _ _ _ _ _ h.row]; rfl)
theorem RPa.lt {w : World} {q p : Nat} {F B : Int} (h : RPa w q p F B) : q < w.heap.size := (Array.getElem?_eq_some_iff.1 h.row).1
theorem RPa.upd {w w' : World} {q p : Nat} {F B : Int} {S : List Nat} (h : RPa w q p F B) (hu : Upd S w w') (hn : q ∉ S) : RPa w' q p F B := ⟨(hu.block _ h.lt hn).trans h.row⟩

theorem rsize_any (q p : Nat) (F B : Int) (n : Nat) (w : World) (h : RPa w q p F B) (hi : In n F B) :
    Calls Try.prog 38 #[.pointer (some ⟨q, 0, none⟩)] w fun e w' => e = .returned (.int .i64 (512 * B)) ∧ w = w' := by
  obtain ⟨c0, c1, c2⟩ := h.cells
  have hw : IntKind.i64.wrap (512 * B) = 512 * B := by rw [IntKind.wrap_i64]; have := hi.some; have := hi.hi; have := hi.lo; have := hi.few; omega
  clear c0 c1 hi h
  go_enter Try.func38, Try.ntmps38
  go_wp2
  go_ret
  exact ⟨rfl, rfl⟩
set_option maxHeartbeats 1000000 in
theorem rin_any (q p : Nat) (F B : Int) (k : Nat) (at_ n : Int) (w : World) (h : RPa w q p F B) (hi : In k F B) (ba : -9223372036854775808 ≤ at_ ∧ at_ ≤ 9223372036854775807) (bn : -9223372036854775808 ≤ n ∧ n ≤ 9223372036854775807) :
    Calls Try.prog 50 #[.pointer (some ⟨q, 0, none⟩), .int .i64 at_, .int .i64 n] w fun e w' => e = .returned (.bool (inB B at_ n)) ∧ w = w' := by
  obtain ⟨c0, c1, c2⟩ := h.cells
  have SZ := Box.mk (fun w h => rsize_any q p F B k w h hi)
  have HP := Box.mk h
  have h1 := hi.lo; have h2 := hi.some; have h3 := hi.hi; have h4 := hi.few
  obtain ⟨S, hS⟩ : ∃ S, S = 512 * B := ⟨_, rfl⟩
  rw [← hS] at SZ
  have hSl : 512 ≤ S ∧ S ≤ 131072 := by omega
  have E0 := inB_iff B at_ n
  rw [← hS] at E0
  clear c0 c2 h1 h2 h3 h4 hS h
  generalize inB B at_ n = r at E0 ⊢
  by_cases g0 : 0 ≤ at_
  · have g0' : decide (0 ≤ at_) = true := by simpa using g0
    by_cases g1 : 0 ≤ n
    · have g1' : decide (0 ≤ n) = true := by simpa using g1
      by_cases g2 : at_ ≤ S
      · have g2' : decide (at_ ≤ S) = true := by simpa using g2
        have hws : IntKind.i64.wrap (S - at_) = S - at_ := by rw [IntKind.wrap_i64]; omega
        have E : Box (r = decide (n ≤ S - at_)) := ⟨by cases r <;> simp at E0 ⊢ <;> omega⟩
        clear E0
        go_enter Try.func50, Try.ntmps50
        go_wp2_with fail
        refine (SZ.out _ HP.out).mono ?_
        rintro e w1 ⟨rfl, rfl⟩
        go_wp2_with fail
        refine (SZ.out _ HP.out).mono ?_
        rintro e w1 ⟨rfl, rfl⟩
        go_wp2
        go_ret
        exact ⟨by rw [E.out]; rfl, rfl⟩
      · have g2' : decide (at_ ≤ S) = false := by simpa using g2
        have E : Box (r = false) := ⟨by cases r <;> simp at E0 ⊢; omega⟩
        clear E0
        go_enter Try.func50, Try.ntmps50
        go_wp2_with fail
        refine (SZ.out _ HP.out).mono ?_
        rintro e w1 ⟨rfl, rfl⟩
        go_wp2
        go_ret
        exact ⟨by rw [E.out]; rfl, rfl⟩
    · have g1' : decide (0 ≤ n) = false := by simpa using g1
      have E : Box (r = false) := ⟨by cases r <;> simp at E0 ⊢; omega⟩
      clear E0
      go_enter Try.func50, Try.ntmps50
      go_wp2
      go_ret
      exact ⟨by rw [E.out]; rfl, rfl⟩
  · have g0' : decide (0 ≤ at_) = false := by simpa using g0
    have E : Box (r = false) := ⟨by cases r <;> simp at E0 ⊢; omega⟩
    clear E0
    go_enter Try.func50, Try.ntmps50
    go_wp2
    go_ret
    exact ⟨by rw [E.out]; rfl, rfl⟩

set_option maxHeartbeats 1000000 in
theorem rpread_any (q p bb cb : Nat) (F B : Int) (s : FS) (at_ n : Int) (w : World) (hf : Fl 64 w p bb cb s) (hok : s.Ok) (h : RPa w q p F B) (hi : In s.n.length F B) (ba : -9223372036854775808 ≤ at_ ∧ at_ ≤ 9223372036854775807) (bn : -9223372036854775808 ≤ n ∧ n ≤ 9223372036854775807) :
    Calls Try.prog 27 #[.pointer (some ⟨q, 0, none⟩), .int .i64 at_, .int .i64 n] w fun e w' => e = .returned (.tuple #[.string (preadV s F B at_ n).1, .int .i64 (preadV s F B at_ n).2]) ∧ Upd [] w w' := by
  obtain ⟨c0, c1, c2⟩ := h.cells
  have PL := Box.mk (rin_any q p F B _ at_ n w h hi ba bn)
  have h1 := hi.lo; have h2 := hi.some; have h3 := hi.hi; have h4 := hi.few
  by_cases hb : inB B at_ n = true
  · have HF := Box.mk hf; have HP := Box.mk h
    have RD := Box.mk (fun w hf => rread_any p bb cb s (512 * F + at_) n w hf hok (by rw [inB_iff] at hb; omega) bn)
    have RE := readV_in hok hi hb
    unfold readV at RE
    rw [RE] at RD
    clear RE
    generalize preadV s F B at_ n = V at RD ⊢
    obtain ⟨V1, V2⟩ := V
    dsimp only at RD ⊢
    rw [hb] at PL
    have hwF : IntKind.i64.wrap (512 * F) = 512 * F := by rw [IntKind.wrap_i64]; omega
    have hwA : IntKind.i64.wrap (512 * F + at_) = 512 * F + at_ := by rw [inB_iff] at hb; rw [IntKind.wrap_i64]; omega
    clear c2 h1 h2 h3 h4 ba bn hi h hok hf hb
    go_enter Try.func27, Try.ntmps27
    go_wp2_with fail
    refine PL.out.mono ?_
    rintro e w1 ⟨rfl, rfl⟩
    clear PL
    go_wp2_with fail
    have ROW := Box.mk (show w.drew.heap[q]? = some (.cells #[.pointer (some ⟨p, 0, none⟩), .int .i64 F, .int .i64 B] 80 (0, 0)) from HP.out.row)
    refine wp_region_mix 16 [.flo, .flo, .flo, .flo, .flo, .flo, .flo, .flo, .flo, .flo, .flo, .flo, .flo, .cha, .flo, .flo] (by kernel_rfl) (by kernel_rfl) rfl ?_
    simp only [List.take, List.zip, List.zipWith]
    try go_frame
    refine gm_move (.tmp 0) (.inl rfl) (.pointer (some ⟨q, 0, none⟩)) rfl ?_
    try go_frame
    refine gm_flo (.pointer (some ⟨q, 0, none⟩)) (fun w1 hw1 => ?_) ?_
    case refine_1 =>
      go_simp
    try go_frame
    refine gm_flo (.pointer (some ⟨q, 0, none⟩)) (fun w1 hw1 => ?_) ?_
    case refine_1 =>
      go_simp
    try go_frame
    refine gm_flo (.pointer (some ⟨p, 0, none⟩)) (fun w1 hw1 => ?_) ?_
    case refine_1 =>
      have e1 : w1.cell? ⟨q, 0, none⟩ = some (.pointer (some ⟨p, 0, none⟩)) := (cell_of_row _ _ _ _ _ _ (hw1.at (by simp) ROW.out)).trans rfl
      go_simp
    try go_frame
    refine gm_move (.tmp 0) (.inl rfl) (.pointer (some ⟨q, 0, none⟩)) rfl ?_
    try go_frame
    refine gm_flo (.pointer (some ⟨q, 0, none⟩)) (fun w1 hw1 => ?_) ?_
    case refine_1 =>
      go_simp
    try go_frame
    refine gm_flo (.pointer (some ⟨q, 1, none⟩)) (fun w1 hw1 => ?_) ?_
    case refine_1 =>
      go_simp
    try go_frame
    refine gm_flo (.pointer (some ⟨q, 1, none⟩)) (fun w1 hw1 => ?_) ?_
    case refine_1 =>
      go_simp
    try go_frame
    refine gm_flo (.int .i64 F) (fun w1 hw1 => ?_) ?_
    case refine_1 =>
      have e1 : w1.cell? ⟨q, 1, none⟩ = some (.int .i64 F) := (cell_of_row _ _ _ _ _ _ (hw1.at (by simp) ROW.out)).trans rfl
      go_simp
    try go_frame
    refine gm_flo (.int .i64 (512 * F)) (fun w1 hw1 => ?_) ?_
    case refine_1 =>
      go_simp
    try go_frame
    refine gm_move (.tmp 1) (.inl rfl) (.int .i64 at_) rfl ?_
    try go_frame
    refine gm_flo (.int .i64 (512 * F + at_)) (fun w1 hw1 => ?_) ?_
    case refine_1 =>
      go_simp
    try go_frame
    refine gm_move (.tmp 2) (.inl rfl) (.int .i64 n) rfl ?_
    try go_frame
    refine gm_call [.pointer (some ⟨p, 0, none⟩), .int .i64 (512 * F + at_), .int .i64 n] (by kernel_rfl) rfl rfl Stb.tt (fun w1 hw1 hF1 => (RD.out w1 (HF.out.upd ((Upd.refl [] w).drew.trans hw1.upd) (by simp) (by simp) (by simp))).mono ?_)
    rintro e w2 ⟨rfl, rfl⟩
    refine ⟨_, rfl, Gr.refl _, ?_⟩
    clear hw1 hF1 w1
    try go_frame
    refine gm_extract (vs := #[.string V1, .int .i64 V2]) (.tmp 26) 0 rfl rfl (.string V1) rfl ?_
    try go_frame
    refine gm_extract (vs := #[.string V1, .int .i64 V2]) (.tmp 26) 1 rfl rfl (.int .i64 V2) rfl ?_
    try go_frame
    refine gm_nil ?_
    intro w9 hw9 hF9
    simp only [List.drop]
    try go_frame
    have HW9 := Box.mk ((Upd.refl [] w).drew.trans hw9.upd); clear hw9 hF9
    go_wp2
    go_ret2
    exact ⟨rfl, HW9.out⟩
  · have hb' : inB B at_ n = false := by simpa using hb
    have E : Box (preadV s F B at_ n = (⟨#[]⟩, 121)) := ⟨by unfold preadV; rw [hb']; rfl⟩
    generalize preadV s F B at_ n = V at E ⊢
    rw [hb'] at PL
    clear c1 c2 h1 h2 h3 h4 ba bn hi h hok hf hb c0 hb'
    obtain ⟨rfl⟩ := E
    go_enter Try.func27, Try.ntmps27
    go_wp2_with fail
    refine PL.out.mono ?_
    rintro e w1 ⟨rfl, rfl⟩
    clear PL
    go_wp2
    go_ret2
    exact ⟨rfl, Upd.refl _ _⟩
set_option maxHeartbeats 1000000 in
theorem rperase_any (q p bb cb : Nat) (F B : Int) (s : FS) (k : Int) (w : World) (hf : Fl 64 w p bb cb s) (hok : s.Ok) (h : RPa w q p F B) (hi : In s.n.length F B) :
    Calls Try.prog 29 #[.pointer (some ⟨q, 0, none⟩), .int .i64 k] w fun e w' => e = .returned (.int .i64 (s.perase F B k).2) ∧ Fl 64 w' p bb cb (s.perase F B k).1 ∧ Upd [p, bb, cb] w w' := by
  obtain ⟨c0, c1, c2⟩ := h.cells
  have HF := Box.mk hf
  by_cases g0 : k < 0
  · have g0' : decide (k < 0) = true := by simpa using g0
    have E : Box (s.perase F B k = (s, 121)) := ⟨by unfold FS.perase; rw [if_neg (by omega)]⟩
    obtain ⟨V, hV⟩ : ∃ V, V = s.perase F B k := ⟨_, rfl⟩
    rw [← hV] at E ⊢
    obtain ⟨rfl⟩ := E
    clear hV c0 c1 hi h hok hf g0
    go_enter Try.func29, Try.ntmps29
    go_wp2
    go_ret
    exact ⟨rfl, HF.out, Upd.refl _ _⟩
  · have g0' : decide (k < 0) = false := by simpa using g0
    by_cases g1 : k < B
    · have g1' : decide (B ≤ k) = false := by simpa using g1
      have hw : IntKind.i64.wrap (F + k) = F + k := by rw [IntKind.wrap_i64]; have := hi.lo; have := hi.hi; have := hi.few; omega
      have E : Box (s.perase F B k = s.erase (F + k)) := ⟨by unfold FS.perase; rw [if_pos (by omega)]⟩
      have ER := Box.mk (fun w h => rerase_any p bb cb s (F + k) w h hok)
      rw [← E.out] at ER
      generalize s.perase F B k = V at ER ⊢
      clear E hi h hok hf g0 g1
      go_enter Try.func29, Try.ntmps29
      go_wp2
      go_still_tail 11, (by kernel_rfl)
      change wpList _ _ _ _ _ w.drew
      go_wp2_with fail
      refine (ER.out _ (HF.out.upd (Upd.refl [] _).drew (by simp) (by simp) (by simp))).mono ?_
      rintro e w1 ⟨rfl, hf1, hu1⟩
      have HF1 := Box.mk hf1; have HU := Box.mk ((Upd.refl [p, bb, cb] w).drew.trans hu1); clear hf1 hu1
      go_wp2
      go_ret
      exact ⟨rfl, HF1.out, HU.out⟩
    · have g1' : decide (B ≤ k) = true := by simpa using g1
      have E : Box (s.perase F B k = (s, 121)) := ⟨by unfold FS.perase; rw [if_neg (by omega)]⟩
      obtain ⟨V, hV⟩ : ∃ V, V = s.perase F B k := ⟨_, rfl⟩
      rw [← hV] at E ⊢
      obtain ⟨rfl⟩ := E
      clear hV c0 c1 hi h hok hf g0 g1
      go_enter Try.func29, Try.ntmps29
      go_wp2
      go_ret
      exact ⟨rfl, HF.out, Upd.refl _ _⟩
end Go.Proofs.Ytaeomiedmjedgaa
