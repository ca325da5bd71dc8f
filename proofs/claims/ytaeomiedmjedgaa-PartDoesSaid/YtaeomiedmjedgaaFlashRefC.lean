/- The document's flash: Erase. -/
import Derived.Test.YtaeomiedmjedgaaFlashRefB
namespace Go.Proofs.Ytaeomiedmjedgaa
set_option linter.unusedVariables false
open Go Go.RowKit

theorem eraseUpto_skip (b : List UInt8) (base m : Nat) (keep : Int) (mask : UInt8) (hp : keep < ((m / 64 : Nat) : Int)) :
    eraseUpto b base (m + 1) true keep mask = eraseUpto b base m true keep mask := by
  apply List.ext_getElem?; intro k
  simp only [eraseUpto, List.getElem?_mapIdx]
  congr 1; funext old
  by_cases hA : base ≤ k ∧ k < base + m
  · rw [if_pos hA, if_pos (by omega)]
  · rw [if_neg hA]
    split
    · rename_i hB
      obtain rfl : k = base + m := by omega
      rw [show base + m - base = m from by omega]
      simp only [eraseByte]; rw [if_neg (by simp; omega), if_neg (by omega)]
    · rfl

set_option maxRecDepth 100000 in
set_option maxHeartbeats 2000000 in
theorem rerase_loop (p bb cb K : Nat) (s : FS) (w : World) (h : Fl 64 w p bb cb s) (hok : s.Ok) (hd : s.dead = false) (hk : K < s.n.length) :
    Calls Try.prog 53 #[.pointer (some ⟨p, 0, none⟩), .int .i64 K] w fun e w' => e = .returned (.int .i64 (toldI s.goes)) ∧ Fl 64 w' p bb cb { s.step with n := s.bump K, b := eraseUpto s.b (512 * K) 512 s.goes s.keep s.mask } ∧ Upd [p, bb, cb] w w' := by
  obtain ⟨bcap, ccap, hb, hc, c0, c1, c2, c3, c4, c5, c6⟩ := h.cells
  have HD := Box.mk hd
  rw [hd] at c6
  have hfew := hok.few
  have hlen := Box.mk hok.len
  have HF := Box.mk h
  have hkI : (K : Int) < (s.n.length : Int) := by omega
  have t1 : Box (toldI true = 2) := ⟨by unfold toldI; rfl⟩
  have t2 : Box (toldI false = 0) := ⟨by unfold toldI; rfl⟩
  obtain ⟨old, ho⟩ : ∃ old, s.n[K]? = some old := ⟨_, List.getElem?_eq_getElem hk⟩
  obtain ⟨x1, x2⟩ := h.count K old ho
  have hset : Fl 64 (w.setCell ⟨cb, K, none⟩ (.int .i64 (wrap64 (old + 1)))) p bb cb { s with n := s.bump K } := (h.setn K hk (wrap64 (old + 1))).to (by
    unfold FS.bump; rw [List.getD_eq_getElem?_getD, ho]; rfl)
  have HS := Box.mk hset
  have HU0 := Box.mk ((Upd.refl [p, bb, cb] w).setCell (p := ⟨cb, K, none⟩) (by simp) (.int .i64 (wrap64 (old + 1))))
  have hok1 : ({ s with n := s.bump K } : FS).Ok := ⟨hok.armed, hok.keep, by simp only [FS.bump, List.length_set]; exact hok.len, by simp only [FS.bump, List.length_set]; exact hok.few⟩
  have hg1 : ({ s with n := s.bump K } : FS).goes = s.goes := rfl
  have HG1 := Box.mk hg1; have OK1 := Box.mk hok1
  clear c0 c2 c3 c4 c5 hc hb h hd hset hg1 hok1 ho
  go_enter Try.func53, Try.ntmps53
  go_wp2_with fail
  refine (goes_any p bb cb _ _ HS.out OK1.out HD.out).mono ?_
  rintro e w1 ⟨rfl, hf1, hu1⟩
  rw [HG1.out]
  have hkeep := hok.keep
  have HF1 : Box (Fl 64 w1 p bb cb { s.step with n := s.bump K }) := ⟨hf1.to rfl⟩
  have HU := Box.mk (HU0.out.trans (hu1.mono (T := [p, bb, cb]) (by simp)))
  clear hf1 hu1 c1 c6 x1 x2
  generalize hG : s.goes = G
  have HG := Box.mk hG; clear hG
  go_wp2_with fail
  go_loopw [6] (fun i wr => ∃ m : Nat, m ≤ 512 ∧ i = .int .i64 m ∧ Fl 64 wr p bb cb { s.step with n := s.bump K, b := eraseUpto s.b (512 * K) m G s.keep s.mask } ∧ Upd [p, bb, cb] w wr) (fun i _ => 512 - (intOf i).toNat)
  case atStart => exact ⟨0, by omega, rfl, HF1.out.to (by rw [eraseUpto_zero]; rfl), HU.out⟩
  case round =>
    clear HS HU HF1 HU0
    obtain ⟨m, hm, rfl, hf, hu⟩ := hrel
    obtain ⟨bcapr, ccapr, hbr, hcr, d0, d1, d2, d3, d4, d5, d6⟩ := hf.cells
    have hkp : s.step.keep = s.keep := rfl
    have hmk : s.step.mask = s.mask := rfl
    simp only [hkp, hmk, eraseUpto_length] at d0 d4 d5
    clear hkp hmk d1 d2 d3 d6 hcr hbr
    have HU := Box.mk hu; clear hu
    have n1 : ¬ bb = p := fun e => hf.d1 e.symm
    have n2 : ¬ p = bb := hf.d1
    by_cases hlt : m < 512
    · have hin : 512 * K + m < s.b.length := by have := hlen.out; omega
      obtain ⟨old, ho⟩ : ∃ old, s.b[512 * K + m]? = some old := ⟨_, List.getElem?_eq_getElem hin⟩
      have hob : (eraseUpto s.b (512 * K) m G s.keep s.mask)[512 * K + m]? = some old := by
        rw [eraseUpto_get _ _ _ _ _ _ _ (Nat.le_refl _)]; exact ho
      obtain ⟨e1, e2⟩ := hf.byte (512 * K + m) old hob
      have HST := Box.mk (eraseUpto_step s.b (512 * K) m G s.keep s.mask old ho)
      have HFR := Box.mk hf; clear hf
      have HSET := Box.mk (fun (v : UInt8) (n : Int) hn => (HFR.out.setb (512 * K + m) (by simp only [eraseUpto_length]; exact hin) v n hn))
      have HSETD := Box.mk (fun (v : UInt8) (n : Int) hn => ((HFR.out.upd (S := []) (Upd.refl _ _).drew (by simp) (by simp) (by simp)).setb (512 * K + m) (by simp only [eraseUpto_length]; exact hin) v n hn))
      clear ho hob
      have hov := old.toNat_lt
      have q := or_u8 old s.mask
      have hI : 512 * (K : Int) + (m : Int) < (s.b.length : Int) := by omega
      have H255 : Box ((255 : Int) = ((255 : UInt8).toNat : Int)) := ⟨rfl⟩
      cases G
      · go_wp2
        refine ⟨⟨m + 1, by omega, by go_num, (HSET.out 255 _ H255.out).to ?_, HU.out.setCell (by simp) _⟩, by simp [intOf]; omega⟩
        rw [← HST.out]; simp [eraseByte]
      · by_cases hc1 : (m : Int) / 64 < s.keep
        · have hc1' : decide ((m : Int) / 64 < s.keep) = true := by simpa using hc1
          have hc2' : ((m : Int) / 64 == s.keep) = false := by rw [beq_eq_false_iff_ne]; omega
          have HC1 := Box.mk hc1
          go_wp2
          refine ⟨⟨m + 1, by omega, by go_num, (HSET.out 255 _ H255.out).to ?_, HU.out.setCell (by simp) _⟩, by simp [intOf]; omega⟩
          rw [← HST.out]; have := HC1.out; simp only [eraseByte]; rw [if_pos (Or.inr (by omega))]
        · have hc1' : decide ((m : Int) / 64 < s.keep) = false := by simpa using hc1
          have HC1 := Box.mk hc1
          by_cases hc2 : (m : Int) / 64 = s.keep
          · have hc2' : ((m : Int) / 64 == s.keep) = true := by simpa using hc2
            have HC2 := Box.mk hc2; clear hc2
            have w0 : IntKind.i64.wrap (512 * (K : Int)) = 512 * (K : Int) := IntWalk.i64_in _ (by omega)
            have w1 : IntKind.i64.wrap (512 * (K : Int) + (m : Int)) = 512 * (K : Int) + (m : Int) := IntWalk.i64_in _ (by omega)
            have w2 : (512 * (K : Int) + (m : Int)).toNat = 512 * K + m := by omega
            have w3 : 0 ≤ 512 * (K : Int) + (m : Int) := by omega
            go_wp2_with fail
            go_still_tail 16, (by kernel_rfl)
            change wpList _ _ _ _ _ wr.drew
            clear w0 w1 w2 w3
            go_wp2
            refine ⟨⟨m + 1, by omega, by go_num, (HSETD.out (old ||| s.mask) _ (by first | rfl | exact or_u8 _ _ | (rw [UInt8.toNat_or]))).to ?_, HU.out.drew.setCell (by simp) _⟩, by simp [intOf]; omega⟩
            rw [← HST.out]; have := HC2.out; simp only [eraseByte]; rw [if_neg (by simp; omega), if_pos (by omega)]
          · have hc2' : ((m : Int) / 64 == s.keep) = false := by rw [beq_eq_false_iff_ne]; exact hc2
            have HC2 : Box (s.keep < (m : Int) / 64) := ⟨by omega⟩
            clear hc2
            go_wp2
            refine ⟨⟨m + 1, by omega, by go_num, HFR.out.to ?_, HU.out⟩, by simp [intOf]; omega⟩
            rw [eraseUpto_skip _ _ _ _ _ (by have := HC2.out; omega)]
    · have hk2 : m = 512 := by omega
      subst hk2
      have HFR := Box.mk hf; clear hf
      cases G
      all_goals
        go_wp2
        go_ret
        refine ⟨?_, HFR.out.to ?_, HU.out⟩
        · rw [HG.out]; first | (rw [t1.out]; rfl) | (rw [t2.out]; rfl)
        · rw [HG.out]

set_option maxHeartbeats 1000000 in
/-- The document's Erase. -/
theorem rerase_any (p bb cb : Nat) (s : FS) (block : Int) (w : World) (h : Fl 64 w p bb cb s) (hok : s.Ok) :
    Calls Try.prog 53 #[.pointer (some ⟨p, 0, none⟩), .int .i64 block] w fun e w' => e = .returned (.int .i64 (s.erase block).2) ∧ Fl 64 w' p bb cb (s.erase block).1 ∧ Upd [p, bb, cb] w w' := by
  have HF := Box.mk h
  obtain ⟨bcap, ccap, hb, hc, c0, c1, c2, c3, c4, c5, c6⟩ := h.cells
  clear c0 c2 c3 c4 c5 hb hc h
  by_cases hd : s.dead = true
  · have E : Box (s.erase block = (s, 2)) := ⟨by unfold FS.erase; rw [if_pos hd]⟩
    rw [hd] at c6; clear hd c1
    rw [E.out]
    go_enter Try.func53, Try.ntmps53
    go_wp2
    go_ret
    exact ⟨rfl, HF.out, Upd.refl _ _⟩
  · have hd' : s.dead = false := by simpa using hd
    by_cases hb : 0 ≤ block ∧ block < s.n.length
    · obtain ⟨K, rfl⟩ := Int.eq_ofNat_of_zero_le hb.1
      have E : Box (s.erase K = ({ s.step with n := s.bump K, b := eraseUpto s.b (512 * K) 512 s.goes s.keep s.mask }, toldI s.goes)) := ⟨by
        unfold FS.erase; rw [if_neg hd, if_neg (by unfold blkB; rw [decide_eq_false_iff_not]; omega)]; rfl⟩
      rw [E.out]
      exact rerase_loop p bb cb K s w HF.out hok hd' (by omega)
    · have E : Box (s.erase block = (s, 111)) := ⟨by unfold FS.erase; rw [if_neg hd, if_pos (by unfold blkB; rw [decide_eq_false_iff_not]; exact hb)]⟩
      rw [E.out]
      rw [hd'] at c6; clear hd hd'
      by_cases h0 : block < 0
      · have h0' : decide (block < 0) = true := by simpa using h0
        clear hb
        go_enter Try.func53, Try.ntmps53
        go_wp2
        go_ret
        exact ⟨rfl, HF.out, Upd.refl _ _⟩
      · have h0' : decide (block < 0) = false := by simpa using h0
        have h1' : decide ((s.n.length : Int) ≤ block) = true := by rw [decide_eq_true_iff]; omega
        clear hb h0
        go_enter Try.func53, Try.ntmps53
        go_wp2
        go_ret
        exact ⟨rfl, HF.out, Upd.refl _ _⟩
end Go.Proofs.Ytaeomiedmjedgaa
