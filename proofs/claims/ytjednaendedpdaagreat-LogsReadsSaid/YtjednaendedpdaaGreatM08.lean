/- The document's flash: Erase. The document's part of a flash: size, in, read, erase, count, clean. The document's part of a flash: count, clean, write, new. The document's part of a flash: New. Arguments that are structs: read field by field; what came in reads behind the call as before it. Arguments that are scripts: bytes and a slice of calls. -/
import Derived.Test.YtjednaendedpdaaGreatM07
import Derived.Test.YtjednaendedpdaaGreatM03
import Derived.Test.YtjednaendedpdaaGreatM05
import Derived.Test.YtjednaendedpdaaGreatM04
import Derived.Test.YtjednaendedpdaaGreatM01
import Derived.Deep.Slices
import Derived.Deep.Fields
import Derived.ChangeSame
import Derived.ProofKit
import Derived.OpenShut
import Derived.ShutString
import Derived.ChangeOld
import Derived.Carry
namespace Go.Proofs.YtjednaendedpdaaGreat
set_option maxRecDepth 100000
set_option linter.unusedVariables false
open Go Go.RowKit

theorem eraseUpto_skip (b : List UInt8) (base m : Nat) (keep : Int) (mask : UInt8) (hp : keep < ((m / 64 : Nat) : Int)) :
    eraseUpto b base (m + 1) true keep mask = eraseUpto b base m true keep mask := by
  apply List.ext_getElem?; intro k
  simp only [eraseUpto, List.getElem?_mapIdx]
  congr 1; funext old
  by_cases hA : base ≤ k ∧ k < base + m
  · rw [if_pos hA, if_pos (by omega)]
  · rw [if_neg hA]
    split
    · rename_i hB
      obtain rfl : k = base + m := by omega
      rw [show base + m - base = m from by omega]
      simp only [eraseByte]; rw [if_neg (by simp; omega), if_neg (by omega)]
    · rfl

set_option maxRecDepth 100000 in
set_option maxHeartbeats 2000000 in
theorem rerase_loop (p bb cb K : Nat) (s : FS) (w : World) (h : Fl 66 w p bb cb s) (hok : s.Ok) (hd : s.dead = false) (hk : K < s.n.length) :
    Calls Tryz.prog 112 #[.pointer (some ⟨p, 0, none⟩), .int .i64 K] w fun e w' => e = .returned (.int .i64 (toldI s.goes)) ∧ Fl 66 w' p bb cb { s.step with n := s.bump K, b := eraseUpto s.b (512 * K) 512 s.goes s.keep s.mask } ∧ Upd [p, bb, cb] w w' := by
  obtain ⟨bcap, ccap, hb, hc, c0, c1, c2, c3, c4, c5, c6⟩ := h.cells
  have HD := Box.mk hd
  rw [hd] at c6
  have hfew := hok.few
  have hlen := Box.mk hok.len
  have HF := Box.mk h
  have hkI : (K : Int) < (s.n.length : Int) := by omega
  have t1 : Box (toldI true = 2) := ⟨by unfold toldI; rfl⟩
  have t2 : Box (toldI false = 0) := ⟨by unfold toldI; rfl⟩
  obtain ⟨old, ho⟩ : ∃ old, s.n[K]? = some old := ⟨_, List.getElem?_eq_getElem hk⟩
  obtain ⟨x1, x2⟩ := h.count K old ho
  have hset : Fl 66 (w.setCell ⟨cb, K, none⟩ (.int .i64 (wrap64 (old + 1)))) p bb cb { s with n := s.bump K } := (h.setn K hk (wrap64 (old + 1))).to (by
    unfold FS.bump; rw [List.getD_eq_getElem?_getD, ho]; rfl)
  have HS := Box.mk hset
  have HU0 := Box.mk ((Upd.refl [p, bb, cb] w).setCell (p := ⟨cb, K, none⟩) (by simp) (.int .i64 (wrap64 (old + 1))))
  have hok1 : ({ s with n := s.bump K } : FS).Ok := ⟨hok.armed, hok.keep, by simp only [FS.bump, List.length_set]; exact hok.len, by simp only [FS.bump, List.length_set]; exact hok.few⟩
  have hg1 : ({ s with n := s.bump K } : FS).goes = s.goes := rfl
  have HG1 := Box.mk hg1; have OK1 := Box.mk hok1
  clear c0 c2 c3 c4 c5 hc hb h hd hset hg1 hok1 ho
  go_enter Tryz.func112, Tryz.ntmps112
  go_wp2_with fail
  refine (goes_any p bb cb _ _ HS.out OK1.out HD.out).mono ?_
  rintro e w1 ⟨rfl, hf1, hu1⟩
  rw [HG1.out]
  have hkeep := hok.keep
  have HF1 : Box (Fl 66 w1 p bb cb { s.step with n := s.bump K }) := ⟨hf1.to rfl⟩
  have HU := Box.mk (HU0.out.trans (hu1.mono (T := [p, bb, cb]) (by simp)))
  clear hf1 hu1 c1 c6 x1 x2
  generalize hG : s.goes = G
  have HG := Box.mk hG; clear hG
  go_wp2_with fail
  go_loopw [6] (fun i wr => ∃ m : Nat, m ≤ 512 ∧ i = .int .i64 m ∧ Fl 66 wr p bb cb { s.step with n := s.bump K, b := eraseUpto s.b (512 * K) m G s.keep s.mask } ∧ Upd [p, bb, cb] w wr) (fun i _ => 512 - (intOf i).toNat)
  case atStart => exact ⟨0, by omega, rfl, HF1.out.to (by rw [eraseUpto_zero]; rfl), HU.out⟩
  case round =>
    clear HS HU HF1 HU0
    obtain ⟨m, hm, rfl, hf, hu⟩ := hrel
    obtain ⟨bcapr, ccapr, hbr, hcr, d0, d1, d2, d3, d4, d5, d6⟩ := hf.cells
    have hkp : s.step.keep = s.keep := rfl
    have hmk : s.step.mask = s.mask := rfl
    simp only [hkp, hmk, eraseUpto_length] at d0 d4 d5
    clear hkp hmk d1 d2 d3 d6 hcr hbr
    have HU := Box.mk hu; clear hu
    have n1 : ¬ bb = p := fun e => hf.d1 e.symm
    have n2 : ¬ p = bb := hf.d1
    by_cases hlt : m < 512
    · have hin : 512 * K + m < s.b.length := by have := hlen.out; omega
      obtain ⟨old, ho⟩ : ∃ old, s.b[512 * K + m]? = some old := ⟨_, List.getElem?_eq_getElem hin⟩
      have hob : (eraseUpto s.b (512 * K) m G s.keep s.mask)[512 * K + m]? = some old := by
        rw [eraseUpto_get _ _ _ _ _ _ _ (Nat.le_refl _)]; exact ho
      obtain ⟨e1, e2⟩ := hf.byte (512 * K + m) old hob
      have HST := Box.mk (eraseUpto_step s.b (512 * K) m G s.keep s.mask old ho)
      have HFR := Box.mk hf; clear hf
      have HSET := Box.mk (fun (v : UInt8) (n : Int) hn => (HFR.out.setb (512 * K + m) (by simp only [eraseUpto_length]; exact hin) v n hn))
      have HSETD := Box.mk (fun (v : UInt8) (n : Int) hn => ((HFR.out.upd (S := []) (Upd.refl _ _).drew (by simp) (by simp) (by simp)).setb (512 * K + m) (by simp only [eraseUpto_length]; exact hin) v n hn))
      clear ho hob
      have hov := old.toNat_lt
      have q := or_u8 old s.mask
      have hI : 512 * (K : Int) + (m : Int) < (s.b.length : Int) := by omega
      have H255 : Box ((255 : Int) = ((255 : UInt8).toNat : Int)) := ⟨rfl⟩
      cases G
      · go_wp2
        refine ⟨⟨m + 1, by omega, by go_num, (HSET.out 255 _ H255.out).to ?_, HU.out.setCell (by simp) _⟩, by simp [intOf]; omega⟩
        rw [← HST.out]; simp [eraseByte]
      · by_cases hc1 : (m : Int) / 64 < s.keep
        · have hc1' : decide ((m : Int) / 64 < s.keep) = true := by simpa using hc1
          have hc2' : ((m : Int) / 64 == s.keep) = false := by rw [beq_eq_false_iff_ne]; omega
          have HC1 := Box.mk hc1
          go_wp2
          refine ⟨⟨m + 1, by omega, by go_num, (HSET.out 255 _ H255.out).to ?_, HU.out.setCell (by simp) _⟩, by simp [intOf]; omega⟩
          rw [← HST.out]; have := HC1.out; simp only [eraseByte]; rw [if_pos (Or.inr (by omega))]
        · have hc1' : decide ((m : Int) / 64 < s.keep) = false := by simpa using hc1
          have HC1 := Box.mk hc1
          by_cases hc2 : (m : Int) / 64 = s.keep
          · have hc2' : ((m : Int) / 64 == s.keep) = true := by simpa using hc2
            have HC2 := Box.mk hc2; clear hc2
            have w0 : IntKind.i64.wrap (512 * (K : Int)) = 512 * (K : Int) := IntWalk.i64_in _ (by omega)
            have w1 : IntKind.i64.wrap (512 * (K : Int) + (m : Int)) = 512 * (K : Int) + (m : Int) := IntWalk.i64_in _ (by omega)
            have w2 : (512 * (K : Int) + (m : Int)).toNat = 512 * K + m := by omega
            have w3 : 0 ≤ 512 * (K : Int) + (m : Int) := by omega
            go_wp2_with fail
            go_still_tail 16, (by kernel_rfl)
            change wpList _ _ _ _ _ wr.drew
            clear w0 w1 w2 w3
            go_wp2
            refine ⟨⟨m + 1, by omega, by go_num, (HSETD.out (old ||| s.mask) _ (by first | rfl | exact or_u8 _ _ | (rw [UInt8.toNat_or]))).to ?_, HU.out.drew.setCell (by simp) _⟩, by simp [intOf]; omega⟩
            rw [← HST.out]; have := HC2.out; simp only [eraseByte]; rw [if_neg (by simp; omega), if_pos (by omega)]
          · have hc2' : ((m : Int) / 64 == s.keep) = false := by rw [beq_eq_false_iff_ne]; exact hc2
            have HC2 : Box (s.keep < (m : Int) / 64) := ⟨by omega⟩
            clear hc2
            go_wp2
            refine ⟨⟨m + 1, by omega, by go_num, HFR.out.to ?_, HU.out⟩, by simp [intOf]; omega⟩
            rw [eraseUpto_skip _ _ _ _ _ (by have := HC2.out; omega)]
    · have hk2 : m = 512 := by omega
      subst hk2
      have HFR := Box.mk hf; clear hf
      cases G
      all_goals
        go_wp2
        go_ret
        refine ⟨?_, HFR.out.to ?_, HU.out⟩
        · rw [HG.out]; first | (rw [t1.out]; rfl) | (rw [t2.out]; rfl)
        · rw [HG.out]

set_option maxHeartbeats 1000000 in
/-- The document's Erase. -/
theorem rerase_any (p bb cb : Nat) (s : FS) (block : Int) (w : World) (h : Fl 66 w p bb cb s) (hok : s.Ok) :
    Calls Tryz.prog 112 #[.pointer (some ⟨p, 0, none⟩), .int .i64 block] w fun e w' => e = .returned (.int .i64 (s.erase block).2) ∧ Fl 66 w' p bb cb (s.erase block).1 ∧ Upd [p, bb, cb] w w' := by
  have HF := Box.mk h
  obtain ⟨bcap, ccap, hb, hc, c0, c1, c2, c3, c4, c5, c6⟩ := h.cells
  clear c0 c2 c3 c4 c5 hb hc h
  by_cases hd : s.dead = true
  · have E : Box (s.erase block = (s, 2)) := ⟨by unfold FS.erase; rw [if_pos hd]⟩
    rw [hd] at c6; clear hd c1
    rw [E.out]
    go_enter Tryz.func112, Tryz.ntmps112
    go_wp2
    go_ret
    exact ⟨rfl, HF.out, Upd.refl _ _⟩
  · have hd' : s.dead = false := by simpa using hd
    by_cases hb : 0 ≤ block ∧ block < s.n.length
    · obtain ⟨K, rfl⟩ := Int.eq_ofNat_of_zero_le hb.1
      have E : Box (s.erase K = ({ s.step with n := s.bump K, b := eraseUpto s.b (512 * K) 512 s.goes s.keep s.mask }, toldI s.goes)) := ⟨by
        unfold FS.erase; rw [if_neg hd, if_neg (by unfold blkB; rw [decide_eq_false_iff_not]; omega)]; rfl⟩
      rw [E.out]
      exact rerase_loop p bb cb K s w HF.out hok hd' (by omega)
    · have E : Box (s.erase block = (s, 111)) := ⟨by unfold FS.erase; rw [if_neg hd, if_pos (by unfold blkB; rw [decide_eq_false_iff_not]; exact hb)]⟩
      rw [E.out]
      rw [hd'] at c6; clear hd hd'
      by_cases h0 : block < 0
      · have h0' : decide (block < 0) = true := by simpa using h0
        clear hb
        go_enter Tryz.func112, Tryz.ntmps112
        go_wp2
        go_ret
        exact ⟨rfl, HF.out, Upd.refl _ _⟩
      · have h0' : decide (block < 0) = false := by simpa using h0
        have h1' : decide ((s.n.length : Int) ≤ block) = true := by rw [decide_eq_true_iff]; omega
        clear hb h0
        go_enter Tryz.func112, Tryz.ntmps112
        go_wp2
        go_ret
        exact ⟨rfl, HF.out, Upd.refl _ _⟩
end Go.Proofs.YtjednaendedpdaaGreat
namespace Go.Proofs.YtjednaendedpdaaGreat
set_option maxRecDepth 100000
set_option linter.unusedVariables false
open Go Go.RowKit

/-- The document's part lies at q: of the flash at p, from block F on, B blocks. -/
structure RPa (w : World) (q p : Nat) (F B : Int) : Prop where
  row : w.heap[q]? = some (.cells #[.pointer (some ⟨p, 0, none⟩), .int .i64 F, .int .i64 B] 70 (0, 0))
theorem RPa.cells {w : World} {q p : Nat} {F B : Int} (h : RPa w q p F B) : w.cell? ⟨q, 0, none⟩ = some (.pointer (some ⟨p, 0, none⟩)) ∧ w.cell? ⟨q, 1, none⟩ = some (.int .i64 F) ∧ w.cell? ⟨q, 2, none⟩ = some (.int .i64 B) := by
  refine ⟨?_, ?_, ?_⟩ <;> (rw [cell_of_row _ _ _ _ _ _ h.row]; rfl)
theorem RPa.lt {w : World} {q p : Nat} {F B : Int} (h : RPa w q p F B) : q < w.heap.size := (Array.getElem?_eq_some_iff.1 h.row).1
theorem RPa.upd {w w' : World} {q p : Nat} {F B : Int} {S : List Nat} (h : RPa w q p F B) (hu : Upd S w w') (hn : q ∉ S) : RPa w' q p F B := ⟨(hu.block _ h.lt hn).trans h.row⟩

theorem rsize_any (q p : Nat) (F B : Int) (n : Nat) (w : World) (h : RPa w q p F B) (hi : In n F B) :
    Calls Tryz.prog 88 #[.pointer (some ⟨q, 0, none⟩)] w fun e w' => e = .returned (.int .i64 (512 * B)) ∧ w = w' := by
  obtain ⟨c0, c1, c2⟩ := h.cells
  have hw : IntKind.i64.wrap (512 * B) = 512 * B := by rw [IntKind.wrap_i64]; have := hi.some; have := hi.hi; have := hi.lo; have := hi.few; omega
  clear c0 c1 hi h
  go_enter Tryz.func88, Tryz.ntmps88
  go_wp2
  go_ret
  exact ⟨rfl, rfl⟩
set_option maxHeartbeats 1000000 in
theorem rin_any (q p : Nat) (F B : Int) (k : Nat) (at_ n : Int) (w : World) (h : RPa w q p F B) (hi : In k F B) (ba : -9223372036854775808 ≤ at_ ∧ at_ ≤ 9223372036854775807) (bn : -9223372036854775808 ≤ n ∧ n ≤ 9223372036854775807) :
    Calls Tryz.prog 64 #[.pointer (some ⟨q, 0, none⟩), .int .i64 at_, .int .i64 n] w fun e w' => e = .returned (.bool (inB B at_ n)) ∧ w = w' := by
  obtain ⟨c0, c1, c2⟩ := h.cells
  have SZ := Box.mk (fun w h => rsize_any q p F B k w h hi)
  have HP := Box.mk h
  have h1 := hi.lo; have h2 := hi.some; have h3 := hi.hi; have h4 := hi.few
  obtain ⟨S, hS⟩ : ∃ S, S = 512 * B := ⟨_, rfl⟩
  rw [← hS] at SZ
  have hSl : 512 ≤ S ∧ S ≤ 131072 := by omega
  have E0 := inB_iff B at_ n
  rw [← hS] at E0
  clear c0 c2 h1 h2 h3 h4 hS h
  generalize inB B at_ n = r at E0 ⊢
  by_cases g0 : 0 ≤ at_
  · have g0' : decide (0 ≤ at_) = true := by simpa using g0
    by_cases g1 : 0 ≤ n
    · have g1' : decide (0 ≤ n) = true := by simpa using g1
      by_cases g2 : at_ ≤ S
      · have g2' : decide (at_ ≤ S) = true := by simpa using g2
        have hws : IntKind.i64.wrap (S - at_) = S - at_ := by rw [IntKind.wrap_i64]; omega
        have E : Box (r = decide (n ≤ S - at_)) := ⟨by cases r <;> simp at E0 ⊢ <;> omega⟩
        clear E0
        go_enter Tryz.func64, Tryz.ntmps64
        go_wp2_with fail
        refine (SZ.out _ HP.out).mono ?_
        rintro e w1 ⟨rfl, rfl⟩
        go_wp2_with fail
        refine (SZ.out _ HP.out).mono ?_
        rintro e w1 ⟨rfl, rfl⟩
        go_wp2
        go_ret
        exact ⟨by rw [E.out]; rfl, rfl⟩
      · have g2' : decide (at_ ≤ S) = false := by simpa using g2
        have E : Box (r = false) := ⟨by cases r <;> simp at E0 ⊢; omega⟩
        clear E0
        go_enter Tryz.func64, Tryz.ntmps64
        go_wp2_with fail
        refine (SZ.out _ HP.out).mono ?_
        rintro e w1 ⟨rfl, rfl⟩
        go_wp2
        go_ret
        exact ⟨by rw [E.out]; rfl, rfl⟩
    · have g1' : decide (0 ≤ n) = false := by simpa using g1
      have E : Box (r = false) := ⟨by cases r <;> simp at E0 ⊢; omega⟩
      clear E0
      go_enter Tryz.func64, Tryz.ntmps64
      go_wp2
      go_ret
      exact ⟨by rw [E.out]; rfl, rfl⟩
  · have g0' : decide (0 ≤ at_) = false := by simpa using g0
    have E : Box (r = false) := ⟨by cases r <;> simp at E0 ⊢; omega⟩
    clear E0
    go_enter Tryz.func64, Tryz.ntmps64
    go_wp2
    go_ret
    exact ⟨by rw [E.out]; rfl, rfl⟩

set_option maxHeartbeats 1000000 in
theorem rpread_any (q p bb cb : Nat) (F B : Int) (s : FS) (at_ n : Int) (w : World) (hf : Fl 66 w p bb cb s) (hok : s.Ok) (h : RPa w q p F B) (hi : In s.n.length F B) (ba : -9223372036854775808 ≤ at_ ∧ at_ ≤ 9223372036854775807) (bn : -9223372036854775808 ≤ n ∧ n ≤ 9223372036854775807) :
    Calls Tryz.prog 31 #[.pointer (some ⟨q, 0, none⟩), .int .i64 at_, .int .i64 n] w fun e w' => e = .returned (.tuple #[.string (preadV s F B at_ n).1, .int .i64 (preadV s F B at_ n).2]) ∧ Upd [] w w' := by
  obtain ⟨c0, c1, c2⟩ := h.cells
  have PL := Box.mk (rin_any q p F B _ at_ n w h hi ba bn)
  have h1 := hi.lo; have h2 := hi.some; have h3 := hi.hi; have h4 := hi.few
  by_cases hb : inB B at_ n = true
  · have HF := Box.mk hf; have HP := Box.mk h
    have RD := Box.mk (fun w hf => rread_any p bb cb s (512 * F + at_) n w hf hok (by rw [inB_iff] at hb; omega) bn)
    have RE := readV_in hok hi hb
    unfold readV at RE
    rw [RE] at RD
    clear RE
    generalize preadV s F B at_ n = V at RD ⊢
    obtain ⟨V1, V2⟩ := V
    dsimp only at RD ⊢
    rw [hb] at PL
    have hwF : IntKind.i64.wrap (512 * F) = 512 * F := by rw [IntKind.wrap_i64]; omega
    have hwA : IntKind.i64.wrap (512 * F + at_) = 512 * F + at_ := by rw [inB_iff] at hb; rw [IntKind.wrap_i64]; omega
    clear c2 h1 h2 h3 h4 ba bn hi h hok hf hb
    go_enter Tryz.func31, Tryz.ntmps31
    go_wp2_with fail
    refine PL.out.mono ?_
    rintro e w1 ⟨rfl, rfl⟩
    clear PL
    go_wp2_with fail
    have ROW := Box.mk (show w.drew.heap[q]? = some (.cells #[.pointer (some ⟨p, 0, none⟩), .int .i64 F, .int .i64 B] 70 (0, 0)) from HP.out.row)
    refine wp_region_mix 16 [.flo, .flo, .flo, .flo, .flo, .flo, .flo, .flo, .flo, .flo, .flo, .flo, .flo, .cha, .flo, .flo] (by kernel_rfl) (by kernel_rfl) rfl ?_
    simp only [List.take, List.zip, List.zipWith]
    try go_frame
    refine gm_move (.tmp 0) (.inl rfl) (.pointer (some ⟨q, 0, none⟩)) rfl ?_
    try go_frame
    refine gm_flo (.pointer (some ⟨q, 0, none⟩)) (fun w1 hw1 => ?_) ?_
    case refine_1 =>
      go_simp
    try go_frame
    refine gm_flo (.pointer (some ⟨q, 0, none⟩)) (fun w1 hw1 => ?_) ?_
    case refine_1 =>
      go_simp
    try go_frame
    refine gm_flo (.pointer (some ⟨p, 0, none⟩)) (fun w1 hw1 => ?_) ?_
    case refine_1 =>
      have e1 : w1.cell? ⟨q, 0, none⟩ = some (.pointer (some ⟨p, 0, none⟩)) := (cell_of_row _ _ _ _ _ _ (hw1.at (by simp) ROW.out)).trans rfl
      go_simp
    try go_frame
    refine gm_move (.tmp 0) (.inl rfl) (.pointer (some ⟨q, 0, none⟩)) rfl ?_
    try go_frame
    refine gm_flo (.pointer (some ⟨q, 0, none⟩)) (fun w1 hw1 => ?_) ?_
    case refine_1 =>
      go_simp
    try go_frame
    refine gm_flo (.pointer (some ⟨q, 1, none⟩)) (fun w1 hw1 => ?_) ?_
    case refine_1 =>
      go_simp
    try go_frame
    refine gm_flo (.pointer (some ⟨q, 1, none⟩)) (fun w1 hw1 => ?_) ?_
    case refine_1 =>
      go_simp
    try go_frame
    refine gm_flo (.int .i64 F) (fun w1 hw1 => ?_) ?_
    case refine_1 =>
      have e1 : w1.cell? ⟨q, 1, none⟩ = some (.int .i64 F) := (cell_of_row _ _ _ _ _ _ (hw1.at (by simp) ROW.out)).trans rfl
      go_simp
    try go_frame
    refine gm_flo (.int .i64 (512 * F)) (fun w1 hw1 => ?_) ?_
    case refine_1 =>
      go_simp
    try go_frame
    refine gm_move (.tmp 1) (.inl rfl) (.int .i64 at_) rfl ?_
    try go_frame
    refine gm_flo (.int .i64 (512 * F + at_)) (fun w1 hw1 => ?_) ?_
    case refine_1 =>
      go_simp
    try go_frame
    refine gm_move (.tmp 2) (.inl rfl) (.int .i64 n) rfl ?_
    try go_frame
    refine gm_call [.pointer (some ⟨p, 0, none⟩), .int .i64 (512 * F + at_), .int .i64 n] (by kernel_rfl) rfl rfl Stb.tt (fun w1 hw1 hF1 => (RD.out w1 (HF.out.upd ((Upd.refl [] w).drew.trans hw1.upd) (by simp) (by simp) (by simp))).mono ?_)
    rintro e w2 ⟨rfl, rfl⟩
    refine ⟨_, rfl, Gr.refl _, ?_⟩
    clear hw1 hF1 w1
    try go_frame
    refine gm_extract (vs := #[.string V1, .int .i64 V2]) (.tmp 26) 0 rfl rfl (.string V1) rfl ?_
    try go_frame
    refine gm_extract (vs := #[.string V1, .int .i64 V2]) (.tmp 26) 1 rfl rfl (.int .i64 V2) rfl ?_
    try go_frame
    refine gm_nil ?_
    intro w9 hw9 hF9
    simp only [List.drop]
    try go_frame
    have HW9 := Box.mk ((Upd.refl [] w).drew.trans hw9.upd); clear hw9 hF9
    go_wp2
    go_ret2
    exact ⟨rfl, HW9.out⟩
  · have hb' : inB B at_ n = false := by simpa using hb
    have E : Box (preadV s F B at_ n = (⟨#[]⟩, 121)) := ⟨by unfold preadV; rw [hb']; rfl⟩
    generalize preadV s F B at_ n = V at E ⊢
    rw [hb'] at PL
    clear c1 c2 h1 h2 h3 h4 ba bn hi h hok hf hb c0 hb'
    obtain ⟨rfl⟩ := E
    go_enter Tryz.func31, Tryz.ntmps31
    go_wp2_with fail
    refine PL.out.mono ?_
    rintro e w1 ⟨rfl, rfl⟩
    clear PL
    go_wp2
    go_ret2
    exact ⟨rfl, Upd.refl _ _⟩
set_option maxHeartbeats 1000000 in
theorem rperase_any (q p bb cb : Nat) (F B : Int) (s : FS) (k : Int) (w : World) (hf : Fl 66 w p bb cb s) (hok : s.Ok) (h : RPa w q p F B) (hi : In s.n.length F B) :
    Calls Tryz.prog 98 #[.pointer (some ⟨q, 0, none⟩), .int .i64 k] w fun e w' => e = .returned (.int .i64 (s.perase F B k).2) ∧ Fl 66 w' p bb cb (s.perase F B k).1 ∧ Upd [p, bb, cb] w w' := by
  obtain ⟨c0, c1, c2⟩ := h.cells
  have HF := Box.mk hf
  by_cases g0 : k < 0
  · have g0' : decide (k < 0) = true := by simpa using g0
    have E : Box (s.perase F B k = (s, 121)) := ⟨by unfold FS.perase; rw [if_neg (by omega)]⟩
    obtain ⟨V, hV⟩ : ∃ V, V = s.perase F B k := ⟨_, rfl⟩
    rw [← hV] at E ⊢
    obtain ⟨rfl⟩ := E
    clear hV c0 c1 hi h hok hf g0
    go_enter Tryz.func98, Tryz.ntmps98
    go_wp2
    go_ret
    exact ⟨rfl, HF.out, Upd.refl _ _⟩
  · have g0' : decide (k < 0) = false := by simpa using g0
    by_cases g1 : k < B
    · have g1' : decide (B ≤ k) = false := by simpa using g1
      have hw : IntKind.i64.wrap (F + k) = F + k := by rw [IntKind.wrap_i64]; have := hi.lo; have := hi.hi; have := hi.few; omega
      have E : Box (s.perase F B k = s.erase (F + k)) := ⟨by unfold FS.perase; rw [if_pos (by omega)]⟩
      have ER := Box.mk (fun w h => rerase_any p bb cb s (F + k) w h hok)
      rw [← E.out] at ER
      generalize s.perase F B k = V at ER ⊢
      clear E hi h hok hf g0 g1
      go_enter Tryz.func98, Tryz.ntmps98
      go_wp2
      go_still_tail 11, (by kernel_rfl)
      change wpList _ _ _ _ _ w.drew
      go_wp2_with fail
      refine (ER.out _ (HF.out.upd (Upd.refl [] _).drew (by simp) (by simp) (by simp))).mono ?_
      rintro e w1 ⟨rfl, hf1, hu1⟩
      have HF1 := Box.mk hf1; have HU := Box.mk ((Upd.refl [p, bb, cb] w).drew.trans hu1); clear hf1 hu1
      go_wp2
      go_ret
      exact ⟨rfl, HF1.out, HU.out⟩
    · have g1' : decide (B ≤ k) = true := by simpa using g1
      have E : Box (s.perase F B k = (s, 121)) := ⟨by unfold FS.perase; rw [if_neg (by omega)]⟩
      obtain ⟨V, hV⟩ : ∃ V, V = s.perase F B k := ⟨_, rfl⟩
      rw [← hV] at E ⊢
      obtain ⟨rfl⟩ := E
      clear hV c0 c1 hi h hok hf g0 g1
      go_enter Tryz.func98, Tryz.ntmps98
      go_wp2
      go_ret
      exact ⟨rfl, HF.out, Upd.refl _ _⟩
end Go.Proofs.YtjednaendedpdaaGreat
namespace Go.Proofs.YtjednaendedpdaaGreat
set_option maxRecDepth 100000
set_option linter.unusedVariables false
open Go Go.RowKit

theorem ffs_yes (S : ByteArray) (h : ∀ k (hk : k < S.size), S[k] = 255) : (((ffs S : Nat) : Int) == ((S.size : Nat) : Int)) = true := by
  have : ffs S = S.size := by
    have := ffs_all S.data.toList (fun k hk => by
      have hk' : k < S.size := by simpa using hk
      rw [List.getElem?_eq_getElem hk]; exact congrArg some (h k hk'))
    simpa using this
  rw [beq_iff_eq, this]
theorem ffs_no (S : ByteArray) (k : Nat) (hk : k < S.size) (h : S[k] ≠ 255) : (((ffs S : Nat) : Int) == ((S.size : Nat) : Int)) = false := by
  rw [beq_eq_false_iff_ne]
  intro e
  have e : ffs S = S.size := by omega
  unfold ffs Lib.countByte at e
  have hl : S.data.toList.length = S.size := by simp
  rw [← hl] at e
  have := List.count_eq_length.1 e S[k] (List.getElem_mem (l := S.data.toList) (n := k) (by rw [hl]; exact hk))
  exact h this.symm
set_option maxHeartbeats 1000000 in
theorem rpclean_any (q p bb cb : Nat) (F B : Int) (s : FS) (at_ n : Int) (w : World) (hf : Fl 66 w p bb cb s) (hok : s.Ok) (h : RPa w q p F B) (hi : In s.n.length F B) (ba : -9223372036854775808 ≤ at_ ∧ at_ ≤ 9223372036854775807) (bn : -9223372036854775808 ≤ n ∧ n ≤ 9223372036854775807) :
    Calls Tryz.prog 73 #[.pointer (some ⟨q, 0, none⟩), .int .i64 at_, .int .i64 n] w fun e w' => e = .returned (.tuple #[.bool (pcleanV s F B at_ n).1, .int .i64 (pcleanV s F B at_ n).2]) ∧ Upd [] w w' := by
  have RD := Box.mk (rpread_any q p bb cb F B s at_ n w hf hok h hi ba bn)
  have SZ : Box ((preadV s F B at_ n).1.size ≤ 131072) := ⟨by
    have h1 := hok.len; have h2 := hok.few
    unfold preadV
    split
    · split
      · show (0 : Nat) ≤ _; omega
      · show ((s.b.drop _).take _).toArray.size ≤ _
        rw [List.size_toArray, List.length_take, List.length_drop]; omega
    · show (0 : Nat) ≤ _; omega⟩
  unfold pcleanV
  generalize preadV s F B at_ n = V at RD SZ ⊢
  obtain ⟨S, x⟩ := V
  dsimp only at RD SZ ⊢
  clear ba bn hi h hok hf
  by_cases hx : x = 0
  · subst hx
    rw [if_pos rfl]
    dsimp only
    have HY := Box.mk (ffs_yes S); have HN := Box.mk (ffs_no S)
    have hS := SZ.out
    generalize (((ffs S : Nat) : Int) == ((S.size : Nat) : Int)) = r at HY HN ⊢
    go_enter Tryz.func73, Tryz.ntmps73
    go_wp2_with fail
    refine RD.out.mono ?_
    rintro e w1 ⟨rfl, u1⟩
    have U1 := Box.mk u1; clear u1
    go_wp2_with fail
    go_loop [10] (fun i => ∃ k : Nat, k ≤ S.size ∧ i = .int .i64 k ∧ ∀ j (hj : j < S.size), j < k → S[j] = 255) (fun i => S.size - (intOf i).toNat)
    case atStart => exact ⟨0, by omega, rfl, fun j hj h => by omega⟩
    case round =>
      obtain ⟨k, hk, rfl, hall⟩ := hrel
      have HA := Box.mk hall; clear hall
      by_cases hlt : k < S.size
      · by_cases hb : S[k] = 255
        · have hb2 : ((S[k].toNat : Int) != 255) = false := by rw [hb]; rfl
          have HB := Box.mk hb; clear hb
          go_wp2
          go_round
          case rel => exact ⟨k + 1, by omega, by go_num, fun j hj h => by
            by_cases e : j = k
            · subst e; exact HB.out
            · exact HA.out j hj (by omega)⟩
          case measure => simp [intOf]; omega
        · have hb2 : ((S[k].toNat : Int) != 255) = true := by
            rw [bne_iff_ne]; intro e; apply hb; apply UInt8.toNat_inj.1; show _ = 255; omega
          have E := Box.mk (HN.out k hlt hb); clear hb
          go_wp2
          go_ret2
          exact ⟨by rw [E.out]; rfl, U1.out⟩
      · have E := Box.mk (HY.out (fun j hj => HA.out j hj (by omega)))
        go_wp2
        go_ret2
        exact ⟨by rw [E.out]; rfl, U1.out⟩
  · have hxb : (x != 0) = true := by rw [bne_iff_ne]; exact hx
    rw [if_neg hx]
    clear hx
    go_enter Tryz.func73, Tryz.ntmps73
    go_wp2_with fail
    refine RD.out.mono ?_
    rintro e w1 ⟨rfl, u1⟩
    have U1 := Box.mk u1; clear u1
    go_wp2
    go_ret2
    exact ⟨rfl, U1.out⟩

/-- What holds at the head of Write's loop. -/
structure WrS (t : TypeId) (w wr : World) (R : FS × Int) (s0 : FS) (l : List UInt8) (A p bb cb : Nat) (s : FS) (f i : Nat) : Prop where
  ok : s.Ok
  nn : s.n.length = s0.n.length
  fl : Fl t wr p bb cb s
  up : Upd [p, bb] w wr
  fi : f ≤ l.length ∧ 1 ≤ i ∧ i ≤ l.length + 1
  go : i ≤ l.length → f < i ∧ (i - f) ≤ 64 - (A + f) % 64
  en : i = l.length + 1 → f = l.length
  pw : ∃ k, l.length - f ≤ k ∧ FS.pw k s ((A + f : Nat) : Int) (l.drop f) = R
theorem ext_drop (t : ByteArray) (f i : Nat) (hi : i ≤ t.size) (hf : f ≤ i) : (t.extract f i).data.toList = (t.data.toList.drop f).take (i - f) := by
  rw [ByteArray.data_extract, Array.toList_extract, List.extract_eq_take_drop]
set_option maxRecDepth 100000 in
set_option maxHeartbeats 2000000 in
theorem rpwrite_any (q p bb cb : Nat) (F B : Int) (s : FS) (at_ : Int) (str : ByteArray) (w : World) (hf : Fl 66 w p bb cb s) (hok : s.Ok) (h : RPa w q p F B) (hi : In s.n.length F B) (hqb : q ≠ bb) (hqp : q ≠ p) (ba : -9223372036854775808 ≤ at_ ∧ at_ ≤ 9223372036854775807) (hs : str.size ≤ 9223372036854775807) :
    Calls Tryz.prog 100 #[.pointer (some ⟨q, 0, none⟩), .int .i64 at_, .string str] w fun e w' => e = .returned (.int .i64 (s.pwrite F B at_ str.data.toList).2) ∧ Fl 66 w' p bb cb (s.pwrite F B at_ str.data.toList).1 ∧ Upd [p, bb] w w' := by
  have PL := Box.mk (rin_any q p F B _ at_ str.size w h hi ba (by omega))
  have hlen : str.data.toList.length = str.size := by simp
  by_cases hb : inB B at_ str.size = true
  · have hin := hb
    rw [inB_iff] at hin
    rw [hb] at PL
    have h1 := hi.lo; have h2 := hi.hi; have h3 := hi.few
    obtain ⟨a, rfl⟩ : ∃ a : Nat, at_ = a := ⟨at_.toNat, by omega⟩
    obtain ⟨A, hA⟩ : ∃ A : Nat, 512 * F + (a : Int) = A := ⟨(512 * F + a).toNat, by omega⟩
    have E : s.pwrite F B a str.data.toList = FS.pw str.size s (A : Int) str.data.toList := by unfold FS.pwrite; rw [hlen, hb, if_pos rfl, hA]
    rw [E]
    obtain ⟨R, hR⟩ : ∃ R, R = FS.pw str.size s (A : Int) str.data.toList := ⟨_, rfl⟩
    rw [← hR]
    have ST0 := Box.mk (show WrS 66 w w R s str.data.toList A p bb cb s 0 1 from ⟨hok, rfl, hf, Upd.refl _ _, by omega, fun h => by omega, fun h => by omega, str.size, by omega, by rw [List.drop_zero]; exact hR.symm⟩)
    have HP := Box.mk h; have HA := Box.mk hA
    have hwF : IntKind.i64.wrap (512 * F) = 512 * F := by rw [IntKind.wrap_i64]; omega
    have hwA : IntKind.i64.wrap (512 * F + (a : Int)) = (A : Int) := by rw [IntKind.wrap_i64]; omega
    have hbd : a + str.size ≤ 131072 ∧ A + str.size ≤ 131072 ∧ (A : Int) % 64 = (a : Int) % 64 := by omega
    have HBD := Box.mk hbd
    have hsz : (str.size : Int) ≤ 131072 ∧ (a : Int) ≤ 131072 ∧ (A : Int) ≤ 131072 := by omega
    obtain ⟨hsz1, hsz2, hsz3⟩ := hsz
    clear E hb hlen hR hf h hok hi hin hs ba hA h1 h2 h3 hbd
    go_enter Tryz.func100, Tryz.ntmps100
    go_wp2_with fail
    refine PL.out.mono ?_
    rintro e w1 ⟨rfl, rfl⟩
    clear PL
    go_wp2_with fail
    go_loopw [7, 8] (fun x y wr => ∃ (f i : Nat) (s' : FS), x = .int .i64 f ∧ y = .int .i64 i ∧ WrS 66 w wr R s str.data.toList A p bb cb s' f i) (fun _ y _ => str.size + 1 - (intOf y).toNat)
    case atStart => exact ⟨0, 1, s, rfl, rfl, ST0.out⟩
    case round =>
      clear ST0
      obtain ⟨f, i, s', rfl, rfl, st⟩ := hrel
      have hlen : str.data.toList.length = str.size := by simp
      have hfi := st.fi
      rw [hlen] at hfi
      obtain ⟨hf1, hi1, hi2⟩ := hfi
      have ST := Box.mk st
      have CU := Box.mk (HP.out.upd st.up (by simp [hqp, hqb]))
      by_cases hle : i ≤ str.size
      · have hleI : (i : Int) ≤ (str.size : Int) := by omega
        have hw1 : IntKind.i64.wrap ((a : Int) + (i : Int)) = (a : Int) + (i : Int) := by rw [IntKind.wrap_i64]; omega
        obtain ⟨go1, go2⟩ := st.go (by rw [hlen]; exact hle)
        obtain ⟨k, hk, hpw⟩ := st.pw
        rw [hlen] at hk
        clear st
        by_cases hc : i < str.size ∧ (a + i) % 64 ≠ 0
        · have hc1 : (i : Int) < (str.size : Int) := by omega
          have hc2 : (((a : Int) + (i : Int)) % 64 != 0) = true := by rw [bne_iff_ne]; omega
          have ST2 := Box.mk (show WrS 66 w wr R s str.data.toList A p bb cb s' f (i + 1) from ⟨ST.out.ok, ST.out.nn, ST.out.fl, ST.out.up, by omega, fun _ => by have := HBD.out; omega, fun h => by omega, ST.out.pw⟩)
          clear hc hlen hk hpw go1 go2 ST
          go_wp2_with fail
          exact ⟨⟨f, i + 1, s', rfl, by go_num, ST2.out⟩, by simp [intOf]; omega⟩
        · obtain ⟨m, hm⟩ : ∃ m, m = i - f := ⟨_, rfl⟩
          have hmm : m = min (str.size - f) (64 - ((A + f : Nat) : Int) % 64).toNat := by have := HBD.out; omega
          obtain ⟨k', rfl⟩ : ∃ k', k = k' + 1 := ⟨k - 1, by omega⟩
          have hdl : (str.data.toList.drop f).length = str.size - f := by rw [List.length_drop, hlen]
          have hne : str.data.toList.drop f ≠ [] := by intro h; rw [h] at hdl; simp at hdl; omega
          have hmq : min (str.data.toList.drop f).length (64 - (((A + f : Nat) : Int) % 64).toNat) = m := by rw [hdl]; omega
          rw [FS.pw_step _ _ _ _ hne, hmq, List.drop_drop] at hpw
          have hul := ext_drop str f i hle (by omega)
          rw [← hm] at hul
          have hus : (str.extract f i).size = m := by rw [ByteArray.size_extract]; omega
          rw [← hul] at hpw
          have PR := Box.mk (fun w h => rprogram_any p bb cb s' ((A + f : Nat) : Int) (str.extract f i) w h ST.out.ok (by omega) (by omega))
          have OK2 := Box.mk (FS.program_ok ST.out.ok ((A + f : Nat) : Int) (str.extract f i).data.toList)
          have N2 := Box.mk (FS.program_n s' ((A + f : Nat) : Int) (str.extract f i).data.toList)
          have hw2 : IntKind.i64.wrap ((A : Int) + (f : Int)) = ((A + f : Nat) : Int) := by rw [IntKind.wrap_i64]; omega
          have hfm : f + m = i := by omega
          rw [hfm, show ((A + f : Nat) : Int) + (m : Nat) = ((A + i : Nat) : Int) from by omega] at hpw
          have hfi2 : (f : Int) ≤ (i : Int) := by omega
          have ROW := Box.mk (show wr.drew.heap[q]? = some (.cells #[.pointer (some ⟨p, 0, none⟩), .int .i64 F, .int .i64 B] 70 (0, 0)) from CU.out.row)
          have NQ : Box (q ∉ [p, bb]) := ⟨by simp [hqp, hqb]⟩
          have FD := Box.mk (ST.out.fl.upd (Upd.refl [] wr).drew (by simp) (by simp) (by simp))
          have LTS : Box (∀ k ∈ [p, bb], k < wr.heap.size) := ⟨by have := ST.out.fl.lt; intro k hk; simp at hk; omega⟩
          generalize s'.program ((A + f : Nat) : Int) (str.extract f i).data.toList = r at PR OK2 N2 hpw
          obtain ⟨r1, r2⟩ := r
          dsimp only at PR OK2 N2 hpw
          have HPW := Box.mk hpw; have HC := Box.mk hc; have HK := Box.mk hk; have GO := Box.mk (show i ≤ str.size ∧ f < i from ⟨hle, go1⟩)
          by_cases hc1 : i < str.size
          all_goals
            have hc1I : decide ((i : Int) < (str.size : Int)) = decide (i < str.size) := by rw [decide_eq_decide]; omega
            first
            | (have hcI : decide ((i : Int) < (str.size : Int)) = true := by simpa using hc1)
            | (have hcI : decide ((i : Int) < (str.size : Int)) = false := by simpa using hc1)
            have hc2 : i < str.size → (((a : Int) + (i : Int)) % 64 != 0) = false := fun h => by rw [bne_eq_false_iff_eq]; have := HC.out; omega
            first
            | (have hc3 := hc2 hc1)
            | skip
            clear hc2 hc1I hpw hul hus hmq hne hdl hmm hm hfm hc hk hlen go1 go2 hle
            go_upto_region 8 with (fail)
            refine wp_region_mixS [p, bb] (fun w => Fl 66 w p bb cb s') (fun w w' hg h => h.upd hg.upd (by simp) (by simp) (by simp)) (FD.out) (LTS.out) 19 [.flo, .flo, .flo, .flo, .flo, .flo, .flo, .flo, .flo, .flo, .flo, .flo, .flo, .flo, .flo, .flo, .flo, .flo, .cha] (by kernel_rfl) (by kernel_rfl) rfl ?_
            simp only [List.take, List.zip, List.zipWith]
            try go_frame
            refine gm_move (.tmp 0) (.inl rfl) (.pointer (some ⟨q, 0, none⟩)) rfl ?_
            try go_frame
            refine gm_flo (.pointer (some ⟨q, 0, none⟩)) (fun w1 hw1 => ?_) ?_
            case refine_1 =>
              go_simp
            try go_frame
            refine gm_flo (.pointer (some ⟨q, 0, none⟩)) (fun w1 hw1 => ?_) ?_
            case refine_1 =>
              go_simp
            try go_frame
            refine gm_flo (.pointer (some ⟨p, 0, none⟩)) (fun w1 hw1 => ?_) ?_
            case refine_1 =>
              have e1 : w1.cell? ⟨q, 0, none⟩ = some (.pointer (some ⟨p, 0, none⟩)) := (cell_of_row _ _ _ _ _ _ (hw1.at NQ.out ROW.out)).trans rfl
              go_simp
            try go_frame
            refine gm_move (.tmp 0) (.inl rfl) (.pointer (some ⟨q, 0, none⟩)) rfl ?_
            try go_frame
            refine gm_flo (.pointer (some ⟨q, 0, none⟩)) (fun w1 hw1 => ?_) ?_
            case refine_1 =>
              go_simp
            try go_frame
            refine gm_flo (.pointer (some ⟨q, 1, none⟩)) (fun w1 hw1 => ?_) ?_
            case refine_1 =>
              go_simp
            try go_frame
            refine gm_flo (.pointer (some ⟨q, 1, none⟩)) (fun w1 hw1 => ?_) ?_
            case refine_1 =>
              go_simp
            try go_frame
            refine gm_flo (.int .i64 F) (fun w1 hw1 => ?_) ?_
            case refine_1 =>
              have e1 : w1.cell? ⟨q, 1, none⟩ = some (.int .i64 F) := (cell_of_row _ _ _ _ _ _ (hw1.at NQ.out ROW.out)).trans rfl
              go_simp
            try go_frame
            refine gm_flo (.int .i64 (512 * F)) (fun w1 hw1 => ?_) ?_
            case refine_1 =>
              go_simp
            try go_frame
            refine gm_move (.tmp 1) (.inl rfl) (.int .i64 (a : Nat)) rfl ?_
            try go_frame
            refine gm_flo (.int .i64 (A : Nat)) (fun w1 hw1 => ?_) ?_
            case refine_1 =>
              go_simp
            try go_frame
            refine gm_move (.tmp 7) (.inl rfl) (.int .i64 (f : Nat)) rfl ?_
            try go_frame
            refine gm_flo (.int .i64 ((A + f : Nat) : Int)) (fun w1 hw1 => ?_) ?_
            case refine_1 =>
              go_simp
            try go_frame
            refine gm_move (.tmp 2) (.inl rfl) (.string str) rfl ?_
            try go_frame
            refine gm_move (.tmp 7) (.inl rfl) (.int .i64 (f : Nat)) rfl ?_
            try go_frame
            refine gm_move (.tmp 8) (.inl rfl) (.int .i64 (i : Nat)) rfl ?_
            try go_frame
            refine gm_flo (.string (str.extract f i)) (fun w1 hw1 => ?_) ?_
            case refine_1 =>
              go_simp
            try go_frame
            refine gm_callS [.pointer (some ⟨p, 0, none⟩), .int .i64 ((A + f : Nat) : Int), .string (str.extract f i)] (by kernel_rfl) rfl rfl (fun w1 hw1 hF1 => (PR.out _ hF1).mono ?_)
            rintro e w2 ⟨rfl, hf, hu⟩
            refine ⟨_, rfl, GrS.of_upd hu (by simp), (fun w => Fl 66 w p bb cb r1), (fun w w' hg h => h.upd hg.upd (by simp) (by simp) (by simp)), (hf), ?_⟩
            clear hw1 hF1 hf hu w1 w2
            try go_frame
            refine gm_nil ?_
            intro w9 hw9 hF9
            simp only [List.drop]
            try go_frame
            have H9 := Box.mk hF9; have U9 := Box.mk ((ST.out.up.trans (Upd.refl [p, bb] wr).drew).trans hw9.upd)
            clear hF9 hw9
            by_cases hr : r2 = 0
            · have hrb : (r2 != 0) = false := by simpa using hr
              have HR := Box.mk hr; clear hr
              go_wp2_with fail
              refine ⟨⟨i, i + 1, r1, rfl, by go_num, OK2.out, N2.out.trans ST.out.nn, H9.out, U9.out, by simp; have := GO.out; omega, fun h => by simp at h; omega, fun h => by simp at h ⊢; have := GO.out; omega, k', by simp; have := HK.out; have := GO.out; omega, ?_⟩, by simp [intOf]; have := GO.out; omega⟩
              have := HPW.out
              rw [if_neg (by rw [HR.out]; simp)] at this
              exact this
            · have hrb : (r2 != 0) = true := by rw [bne_iff_ne]; exact hr
              have HR : Box ((r1, r2) = R) := ⟨by have := HPW.out; rwa [if_pos hr] at this⟩
              clear hr HPW
              go_wp2_with fail
              go_ret
              obtain ⟨rfl⟩ := HR
              exact ⟨rfl, H9.out, U9.out⟩
      · have hen := st.en (by rw [hlen]; omega)
        obtain ⟨k, hk, hpw⟩ := st.pw
        rw [hen, List.drop_length, FS.pw_nil] at hpw
        have HR := Box.mk hpw
        have hleI : ¬ (i : Int) ≤ (str.size : Int) := by omega
        clear st hpw hk hen hlen
        go_wp2_with fail
        go_ret
        obtain ⟨rfl⟩ := HR
        exact ⟨rfl, ST.out.fl, ST.out.up⟩
  · have hb' : inB B at_ str.size = false := by simpa using hb
    have E : Box (s.pwrite F B at_ str.data.toList = (s, 121)) := ⟨by unfold FS.pwrite; rw [hlen, hb']; rfl⟩
    obtain ⟨R, hR⟩ : ∃ R, R = s.pwrite F B at_ str.data.toList := ⟨_, rfl⟩
    rw [← hR] at E ⊢
    obtain ⟨rfl⟩ := E
    have HF := Box.mk hf
    rw [hb'] at PL
    clear hR hlen hf h hok hi hs ba hb hb'
    go_enter Tryz.func100, Tryz.ntmps100
    go_wp2_with fail
    refine PL.out.mono ?_
    rintro e w1 ⟨rfl, rfl⟩
    clear PL
    go_wp2_with fail
    go_ret
    exact ⟨rfl, HF.out, Upd.refl _ _⟩
end Go.Proofs.YtjednaendedpdaaGreat
namespace Go.Proofs.YtjednaendedpdaaGreat
set_option maxRecDepth 100000
set_option linter.unusedVariables false
open Go Go.RowKit

set_option maxHeartbeats 2000000 in
theorem rpnew_yes (p bb cb : Nat) (F B : Int) (s : FS) (w : World) (hf : Fl 66 w p bb cb s) (hi : In s.n.length F B) :
    Calls Tryz.prog 8 #[.pointer (some ⟨p, 0, none⟩), .agg #[.int .i64 F, .int .i64 B]] w fun e w' => ∃ q, e = .returned (.tuple #[.pointer (some ⟨q, 0, none⟩), .int .i64 0]) ∧ RPa w' q p F B ∧ w.heap.size ≤ q ∧ Below w.heap.size w w' := by
  have h1 : decide (F < 0) = false := by rw [decide_eq_false_iff_not]; have := hi.lo; omega
  have h2 : decide (B < 1) = false := by rw [decide_eq_false_iff_not]; have := hi.some; omega
  obtain ⟨n, hn⟩ : ∃ n, n = s.n.length := ⟨_, rfl⟩
  have h3 : decide ((n : Int) < F) = false := by rw [decide_eq_false_iff_not]; have := hi.hi; have := hi.some; omega
  have hw : IntKind.i64.wrap ((n : Int) - F) = (n : Int) - F := by rw [IntKind.wrap_i64]; have := hi.hi; have := hi.lo; have := hi.few; have := hi.some; omega
  have h4 : decide ((n : Int) - F < B) = false := by rw [decide_eq_false_iff_not]; have := hi.hi; omega
  obtain ⟨w1, hw1⟩ : ∃ w1, w1 = w.alloc (.cells #[.int .i64 F, .int .i64 B] 36) := ⟨_, rfl⟩
  have hb1 : Below w.heap.size w w1 := by rw [hw1]; exact (Below.refl _ _).alloc (Nat.le_refl _) _
  have r1 : w1.heap[w.heap.size]? = some (.cells #[.int .i64 F, .int .i64 B] 36 (0, 0)) := by rw [hw1]; exact heap_alloc_new _ _
  have c0 : w1.cell? ⟨w.heap.size, 0, none⟩ = some (.int .i64 F) := (cell_of_row _ _ _ _ _ _ r1).trans rfl
  have c1 : w1.cell? ⟨w.heap.size, 1, none⟩ = some (.int .i64 B) := (cell_of_row _ _ _ _ _ _ r1).trans rfl
  obtain ⟨bcap, ccap, hb, hc, d0, d1, d2, d3, d4, d5, d6⟩ := (hf.upd (Upd.of_below hb1) (S := []) (by simp) (by simp) (by simp)).cells
  rw [← hn] at d1
  have B1 := Box.mk hb1
  clear hn hf hi r1 hb1 d0 d2 d3 d4 d5 d6 hb hc
  go_enter Tryz.func8, Tryz.ntmps8
  go_upto_region 1 with (fail)
  rw [← hw1]
  clear hw1
  go_wp2_with fail
  go_ret2
  exact ⟨w1.heap.size, rfl, ⟨heap_alloc_new _ _⟩, B1.out.size, B1.out.alloc B1.out.size _⟩
set_option maxHeartbeats 2000000 in
theorem rpnew_no (p bb cb : Nat) (F B : Int) (s : FS) (w : World) (hf : Fl 66 w p bb cb s) (hok : s.Ok) (hi : ¬ In s.n.length F B) (bF : -9223372036854775808 ≤ F ∧ F ≤ 9223372036854775807) :
    Calls Tryz.prog 8 #[.pointer (some ⟨p, 0, none⟩), .agg #[.int .i64 F, .int .i64 B]] w fun e w' => e = .returned (.tuple #[.pointer none, .int .i64 120]) ∧ Below w.heap.size w w' := by
  have hfew := hok.few
  obtain ⟨n, hn⟩ : ∃ n, n = s.n.length := ⟨_, rfl⟩
  have hi' : ¬ (0 ≤ F ∧ 1 ≤ B ∧ F + B ≤ (n : Int)) := fun ⟨a, b, c⟩ => hi ⟨a, b, by rw [← hn]; exact c, hfew.2⟩
  rw [← hn] at hfew
  obtain ⟨w1, hw1⟩ : ∃ w1, w1 = w.alloc (.cells #[.int .i64 F, .int .i64 B] 36) := ⟨_, rfl⟩
  have hb1 : Below w.heap.size w w1 := by rw [hw1]; exact (Below.refl _ _).alloc (Nat.le_refl _) _
  have r1 : w1.heap[w.heap.size]? = some (.cells #[.int .i64 F, .int .i64 B] 36 (0, 0)) := by rw [hw1]; exact heap_alloc_new _ _
  have c0 : w1.cell? ⟨w.heap.size, 0, none⟩ = some (.int .i64 F) := (cell_of_row _ _ _ _ _ _ r1).trans rfl
  have c1 : w1.cell? ⟨w.heap.size, 1, none⟩ = some (.int .i64 B) := (cell_of_row _ _ _ _ _ _ r1).trans rfl
  obtain ⟨bcap, ccap, hb, hc, d0, d1, d2, d3, d4, d5, d6⟩ := (hf.upd (Upd.of_below hb1) (S := []) (by simp) (by simp) (by simp)).cells
  rw [← hn] at d1
  have B1 := Box.mk hb1
  clear hn hf hi r1 hb1 hok d0 d2 d3 d4 d5 d6 hb hc
  by_cases g1 : F < 0
  · have h1 : decide (F < 0) = true := by simpa using g1
    clear hi' g1
    go_enter Tryz.func8, Tryz.ntmps8
    go_upto_region 1 with (fail)
    rw [← hw1]
    clear hw1
    go_wp2_with fail
    go_ret2
    exact ⟨rfl, B1.out⟩
  · have h1 : decide (F < 0) = false := by simpa using g1
    by_cases g2 : B < 1
    · have h2 : decide (B < 1) = true := by simpa using g2
      clear hi' g1 g2
      go_enter Tryz.func8, Tryz.ntmps8
      go_upto_region 1 with (fail)
      rw [← hw1]
      clear hw1
      go_wp2_with fail
      go_ret2
      exact ⟨rfl, B1.out⟩
    · have h2 : decide (B < 1) = false := by simpa using g2
      by_cases g3 : (n : Int) < F
      · have h3 : decide ((n : Int) < F) = true := by simpa using g3
        clear hi' g1 g2 g3
        go_enter Tryz.func8, Tryz.ntmps8
        go_upto_region 1 with (fail)
        rw [← hw1]
        clear hw1
        go_wp2_with fail
        go_ret2
        exact ⟨rfl, B1.out⟩
      · have h3 : decide ((n : Int) < F) = false := by simpa using g3
        have hw : IntKind.i64.wrap ((n : Int) - F) = (n : Int) - F := by rw [IntKind.wrap_i64]; omega
        have h4 : decide ((n : Int) - F < B) = true := by rw [decide_eq_true_eq]; omega
        clear hi' g1 g2 g3
        go_enter Tryz.func8, Tryz.ntmps8
        go_upto_region 1 with (fail)
        rw [← hw1]
        clear hw1
        go_wp2_with fail
        go_ret2
        exact ⟨rfl, B1.out⟩
end Go.Proofs.YtjednaendedpdaaGreat
namespace Go.Proofs.YtjednaendedpdaaGreat
set_option maxRecDepth 100000
open Go Go.RowKit Go.ChangeShapes Go.WideShapes Go.Deep
set_option linter.unusedVariables false
section
variable {H : Type} {enc : TypeId × Value → H} {P : Program} {w : World} {base : Nat} {spare : Nat → Bool} {held : Bool}

/-- A field's cell has a reading at its type. -/
def Reads (enc : TypeId × Value → H) (P : Program) (w : World) (base : Nat) (spare : Nat → Bool) (held : Bool) (t : TypeId) (v : Value) : Prop :=
  ∃ y n, DataW.trod enc P w base spare held n t [v] = some y

theorem read_fields {t : TypeId} {fs : Array Field} {fuel : Nat} {cs : List Value} {x : DataW H × List MemPlace} (hs : P.underlying t = some (.struct fs)) (hone : oneCellFields P fs = true) (hC : P.cellsOf t = fs.size)
    (h : DataW.trod enc P w base spare held fuel t cs = some x) :
    cs.length = fs.size ∧ ∀ (j : Nat) (f : Field), fs[j]? = some f → ∃ v, cs[j]? = some v ∧ Reads enc P w base spare held f.type v := by
  obtain ⟨ys, n, _, _, hlen, hyl, hf⟩ := DataW.trod_struct hs h
  rw [hC] at hlen
  refine ⟨hlen, fun j f hj => ?_⟩
  obtain ⟨ho, hk⟩ := hone_of hone j f hj
  have hjl : j < fs.size := (Array.getElem?_eq_some_iff.1 hj).1
  have h1 := hf j f hj
  rw [ho, hk] at h1
  have e1 : (cs.drop j).take 1 = [cs[j]'(by omega)] := by
    rw [List.drop_eq_getElem_cons (by omega)]; rfl
  rw [e1] at h1
  exact ⟨cs[j]'(by omega), List.getElem?_eq_getElem (by omega), _, _, h1.trans (List.getElem?_eq_getElem (by omega : j < ys.length))⟩

theorem read_struct {r : Reach} {b0 : Nat} {t : TypeId} {fs : Array Field} {v : Value} {d : DataW H} {p : List MemPlace} (hs : P.underlying t = some (.struct fs)) (hone : oneCellFields P fs = true) (hC : P.cellsOf t = fs.size)
    (hv : Value.okWide P w r b0 t v) (h : DataW.Trod enc P w base spare held t v d p) :
    ∃ cs : Array Value, v = .agg cs ∧ cs.size = fs.size ∧ ∀ (j : Nat) (f : Field), fs[j]? = some f → ∃ c, cs[j]? = some c ∧ Reads enc P w base spare held f.type c := by
  obtain ⟨cs, rfl, hsz⟩ := okWide_struct hs hv
  obtain ⟨fuel, hf⟩ := h
  obtain ⟨hl, hr⟩ := read_fields hs hone hC hf
  refine ⟨cs, rfl, hsz.trans hC, fun j f hj => ?_⟩
  obtain ⟨c, hc, hy⟩ := hr j f hj
  exact ⟨c, by simpa [Value.cells] using hc, hy⟩

theorem Reads.int {t : TypeId} {k : IntKind} {v : Value} (ht : P.underlying t = some (.int k)) (h : Reads enc P w base spare held t v) : ∃ n, v = .int k n ∧ (Lit.int k n).wf = true := by
  obtain ⟨y, n, h⟩ := h
  obtain ⟨m, hm, _, hw⟩ := DataW.trod_int ht h
  simp at hm
  exact ⟨m, hm, hw⟩
theorem Reads.string {t : TypeId} {v : Value} (ht : P.underlying t = some .string) (h : Reads enc P w base spare held t v) : ∃ s, v = .string s ∧ s.size ≤ maxLen := by
  obtain ⟨y, n, h⟩ := h
  obtain ⟨m, hm, _, hw⟩ := DataW.trod_string ht h
  simp at hm
  exact ⟨m, hm, hw⟩
theorem Reads.bool {t : TypeId} {v : Value} (ht : P.underlying t = some .bool) (h : Reads enc P w base spare held t v) : ∃ b, v = .bool b := by
  obtain ⟨y, n, h⟩ := h
  obtain ⟨m, hm, _⟩ := DataW.trod_bool ht h
  simp at hm
  exact ⟨m, hm⟩
/-- A slice: nil, or its length, capacity, and what its elements' cells read. -/
theorem Reads.slice {t e : TypeId} {fs : Array Field} {v : Value} (ht : P.underlying t = some (.slice e)) (he : P.underlying e = some (.struct fs)) (hone : oneCellFields P fs = true) (hC : P.cellsOf e = fs.size)
    (h : Reads enc P w base spare held t v) :
    v = .slice none 0 0 ∨ ∃ (a : Addr) (len cap : Nat), v = .slice (some a) len cap ∧ base ≤ a.block ∧ len ≤ cap ∧ cap ≤ maxLen ∧
      ∀ i, i < len → ∀ (j : Nat) (f : Field), fs[j]? = some f → ∃ c, w.cell? (a.add (i * fs.size + j)) = some c ∧ Reads enc P w base spare held f.type c := by
  obtain ⟨y, n, h⟩ := h
  rcases open_slice ht h with ⟨hcs, _⟩ | ⟨a, len, cap, m, n, D, Pl, hcs, hb, hl, hm, hmm, hx, hi⟩
  · left; simpa using hcs
  · right
    simp at hcs
    refine ⟨a, len, cap, hcs, hb, hl, hm, fun i him j f hj => ?_⟩
    have hi' : i < m := by rw [hmm]; split <;> omega
    obtain ⟨cs', hc, ht'⟩ := hi i hi'
    obtain ⟨hlen, hf⟩ := read_fields he hone hC ht'
    obtain ⟨c, hcj, hr⟩ := hf j f hj
    obtain ⟨_, hcl, hat⟩ := World.cells?_some hc
    have hjl : j < fs.size := (Array.getElem?_eq_some_iff.1 hj).1
    refine ⟨c, ?_, hr⟩
    rw [← Go.Deep.add_add, hC] at *
    have := hat j (by omega)
    rw [this]; exact hcj
end
end Go.Proofs.YtjednaendedpdaaGreat
namespace Go.Proofs.YtjednaendedpdaaGreat
set_option maxRecDepth 100000
open Go Go.RowKit Go.ChangeShapes Go.WideShapes Go.Deep
set_option linter.unusedVariables false

theorem exists_list {α : Type} (P : Nat → α → Prop) (n : Nat) (h : ∀ i, i < n → ∃ o, P i o) : ∃ l : List α, l.length = n ∧ ∀ i o, l[i]? = some o → P i o := by
  induction n with
  | zero => exact ⟨[], rfl, fun i o h => by simp at h⟩
  | succ n ih =>
    obtain ⟨l, hl, hP⟩ := ih (fun i hi => h i (by omega))
    obtain ⟨o, ho⟩ := h n (by omega)
    refine ⟨l ++ [o], by simp [hl], fun i o' hi => ?_⟩
    by_cases hin : i < n
    · rw [List.getElem?_append_left (by omega)] at hi; exact hP i o' hi
    · have hlt := (List.getElem?_eq_some_iff.1 hi).1
      simp [hl] at hlt
      obtain rfl : i = n := by omega
      rw [List.getElem?_append_right (by omega), hl] at hi
      simp at hi; subst hi; exact ho

/-- A call of a script: which, a place or a block, a number, bytes, a mask. -/
structure OpR where
  k : Int
  a : Int
  n : Int
  s : ByteArray
  m : UInt8
structure OpR.Ok (o : OpR) : Prop where
  k : -9223372036854775808 ≤ o.k ∧ o.k ≤ 9223372036854775807
  a : -9223372036854775808 ≤ o.a ∧ o.a ≤ 9223372036854775807
  n : -9223372036854775808 ≤ o.n ∧ o.n ≤ 9223372036854775807
  s : o.s.size ≤ maxLen
/-- It lies at p. -/
structure OpAt (w : World) (p : Addr) (o : OpR) : Prop where
  k : w.cell? p = some (.int .i64 o.k)
  a : w.cell? (p.add 1) = some (.int .i64 o.a)
  n : w.cell? (p.add 2) = some (.int .i64 o.n)
  s : w.cell? (p.add 3) = some (.string o.s)
  m : w.cell? (p.add 4) = some (.int .u8 (o.m.toNat : Int))
  ok : o.Ok
/-- The slice sl holds the calls of l. -/
def Script (w : World) (sl : Value) (l : List OpR) : Prop :=
  ∃ (ao : Option Addr) (cap : Nat), sl = .slice ao l.length cap ∧ l.length ≤ maxLen ∧ ∀ i o, l[i]? = some o → ∃ a, ao = some a ∧ OpAt w (a.add (i * 5)) o

theorem Script.of_reads {H : Type} {enc : TypeId × Value → H} {P : Program} {w : World} {base : Nat} {spare : Nat → Bool} {held : Bool} {t e ti ts tb : TypeId} {v : Value} {n0 n1 n2 n3 n4 : Field}
    (ht : P.underlying t = some (.slice e)) (he : P.underlying e = some (.struct #[n0, n1, n2, n3, n4])) (hone : oneCellFields P #[n0, n1, n2, n3, n4] = true) (hC : P.cellsOf e = 5)
    (h0 : n0.type = ti) (h1 : n1.type = ti) (h2 : n2.type = ti) (h3 : n3.type = ts) (h4 : n4.type = tb)
    (hti : P.underlying ti = some (.int .i64)) (hts : P.underlying ts = some .string) (htb : P.underlying tb = some (.int .u8))
    (h : Reads enc P w base spare held t v) : ∃ l, Script w v l := by
  rcases Reads.slice ht he hone hC h with rfl | ⟨a, len, cap, rfl, hb, hl, hm, hi⟩
  · exact ⟨[], none, 0, rfl, Nat.zero_le _, fun i o h => by simp at h⟩
  · have hex : ∀ i, i < len → ∃ o, OpAt w (a.add (i * 5)) o := by
      intro i hil
      obtain ⟨c0, g0, r0⟩ := hi i hil 0 _ rfl
      obtain ⟨c1, g1, r1⟩ := hi i hil 1 _ rfl
      obtain ⟨c2, g2, r2⟩ := hi i hil 2 _ rfl
      obtain ⟨c3, g3, r3⟩ := hi i hil 3 _ rfl
      obtain ⟨c4, g4, r4⟩ := hi i hil 4 _ rfl
      have r0 := h0 ▸ r0; have r1 := h1 ▸ r1; have r2 := h2 ▸ r2; have r3 := h3 ▸ r3; have r4 := h4 ▸ r4
      obtain ⟨k, rfl, wk⟩ := r0.int hti
      obtain ⟨x, rfl, wx⟩ := r1.int hti
      obtain ⟨n, rfl, wn⟩ := r2.int hti
      obtain ⟨s, rfl, ws⟩ := r3.string hts
      obtain ⟨m, rfl, wm⟩ := r4.int htb
      have bm := bounds_u8 wm
      have em : m = ((UInt8.ofNat m.toNat).toNat : Int) := by rw [UInt8.toNat_ofNat']; omega
      have ha : ∀ j, (a.add (i * 5)).add j = a.add (i * 5 + j) := fun j => Go.Deep.add_add a _ _
      refine ⟨⟨k, x, n, s, UInt8.ofNat m.toNat⟩, ⟨by simpa using g0, by rw [ha]; simpa using g1, by rw [ha]; simpa using g2, by rw [ha]; simpa using g3, by rw [ha, ← em]; simpa using g4, ⟨bounds_i64 wk, bounds_i64 wx, bounds_i64 wn, ws⟩⟩⟩
    obtain ⟨l, hll, hP⟩ := exists_list _ _ hex
    exact ⟨l, some a, cap, by rw [hll], by omega, fun i o h => ⟨a, rfl, hP i o h⟩⟩
/-- The cells in the walk's own spelling. -/
theorem OpAt.flat {w : World} {p : Addr} {o : OpR} (h : OpAt w p o) : w.cell? p = some (.int .i64 o.k) ∧ w.cell? ⟨p.block, p.off + 1, none⟩ = some (.int .i64 o.a) ∧ w.cell? ⟨p.block, p.off + 2, none⟩ = some (.int .i64 o.n) ∧
    w.cell? ⟨p.block, p.off + 3, none⟩ = some (.string o.s) ∧ w.cell? ⟨p.block, p.off + 4, none⟩ = some (.int .u8 (o.m.toNat : Int)) := ⟨h.k, h.a, h.n, h.s, h.m⟩
theorem OpAt.lt {w : World} {p : Addr} {o : OpR} (h : OpAt w p o) : p.block < w.heap.size := World.block_lt_of_cell? w p h.k
theorem OpAt.below {B : Nat} {w w' : World} {p : Addr} {o : OpR} (h : OpAt w p o) (hb : Below B w w') (hp : p.block < B) : OpAt w' p o := by
  have hq : ∀ j, (p.add j).block = p.block := by intro j; unfold Addr.add; split <;> rfl
  exact ⟨(hb.cell hp).trans h.k, (hb.cell (by rw [hq]; exact hp)).trans h.a, (hb.cell (by rw [hq]; exact hp)).trans h.n, (hb.cell (by rw [hq]; exact hp)).trans h.s, (hb.cell (by rw [hq]; exact hp)).trans h.m, h.ok⟩
theorem Script.below {w w' : World} {sl : Value} {l : List OpR} (h : Script w sl l) (hb : Below w.heap.size w w') : Script w' sl l := by
  obtain ⟨ao, cap, h1, h2, h3⟩ := h
  exact ⟨ao, cap, h1, h2, fun i o hi => by obtain ⟨a, e, ha⟩ := h3 i o hi; exact ⟨a, e, ha.below hb ha.lt⟩⟩
end Go.Proofs.YtjednaendedpdaaGreat
