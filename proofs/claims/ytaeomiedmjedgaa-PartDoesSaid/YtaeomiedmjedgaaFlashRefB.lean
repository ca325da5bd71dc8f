/- The document's flash: Program. -/
import Derived.Test.YtaeomiedmjedgaaFlashRefA
import Derived.IntWalk
namespace Go.Proofs.Ytaeomiedmjedgaa
set_option linter.unusedVariables false
open Go Go.RowKit

set_option maxRecDepth 100000 in
set_option maxHeartbeats 2000000 in
theorem rprog_loop (p bb cb A : Nat) (s : FS) (str : ByteArray) (w : World) (h : Fl 64 w p bb cb s) (hok : s.Ok) (hd : s.dead = false) (hl : A + str.size ≤ s.b.length) (hne : str.size ≠ 0) (hp : (A : Int) % 64 + str.size ≤ 64) :
    Calls Try.prog 52 #[.pointer (some ⟨p, 0, none⟩), .int .i64 A, .string str] w fun e w' => e = .returned (.int .i64 (toldI s.goes)) ∧ Fl 64 w' p bb cb { s.step with b := progBytes s.b A str.data.toList s.goes s.keep s.mask } ∧ Upd [p, bb] w w' := by
  obtain ⟨bcap, ccap, hb, hc, c0, c1, c2, c3, c4, c5, c6⟩ := h.cells
  have HD := Box.mk hd
  rw [hd] at c6
  have hb2 : (s.b.length : Int) ≤ 131072 := by have := hok.len; have := hok.few; omega
  have hon : onB s.b.length (A : Int) (str.size : Int) = true := by unfold onB; rw [decide_eq_true_iff]; omega
  have hz : ((str.size : Int) == 0) = false := by rw [beq_eq_false_iff_ne]; omega
  have hpg : ¬ (64 < (A : Int) % 64 + str.size) := by omega
  have HON := Box.mk hon; clear hon hd hp
  have HF := Box.mk h
  have e1 : Box (toldI true = 2) := ⟨by unfold toldI; rfl⟩
  have e2 : Box (toldI false = 0) := ⟨by unfold toldI; rfl⟩
  clear c1 c2 c3 c4 c5 hc h
  go_enter Try.func52, Try.ntmps52
  go_wp2_with fail
  refine (ron_any p bb cb s A str.size _ HF.out hok (by omega) (by omega)).mono ?_
  rintro e w1 ⟨rfl, rfl⟩
  rw [HON.out]
  go_wp2_with fail
  refine (goes_any p bb cb s _ HF.out hok HD.out).mono ?_
  rintro e w1 ⟨rfl, hf1, hu1⟩
  have hkeep := hok.keep
  obtain ⟨bcap1, ccap1, hb1, hc1, d0, d1, d2, d3, d4, d5, d6⟩ := hf1.cells
  have HF1 := Box.mk hf1; clear hf1
  have HU1 := Box.mk hu1; clear hu1
  have HNE := Box.mk hne; clear hne
  have HL := Box.mk hl
  clear c0 c6 d0 d1 d2 d3 d4 d5 d6 hb1 hc1 hb
  generalize hG : s.goes = G
  have HG := Box.mk hG; clear hG
  go_wp2_with fail
  go_loopw [8] (fun i wr => ∃ k : Nat, k ≤ str.size ∧ i = .int .i64 k ∧ Fl 64 wr p bb cb { s.step with b := progBytes s.b A (str.data.toList.take k) G s.keep s.mask } ∧ Upd [p, bb] w wr) (fun i _ => str.size - (intOf i).toNat)
  case atStart => exact ⟨0, by omega, rfl, HF1.out.to (by rw [List.take_zero, progBytes_nil]; rfl), HU1.out.mono (by simp)⟩
  case round =>
    clear HF1 HU1
    obtain ⟨k, hk, rfl, hf, hu⟩ := hrel
    obtain ⟨bcapr, ccapr, hbr, hcr, d0, d1, d2, d3, d4, d5, d6⟩ := hf.cells
    simp only [progBytes_length] at d0 hbr
    have hkp : s.step.keep = s.keep := rfl
    have hmk : s.step.mask = s.mask := rfl
    simp only [hkp, hmk] at d4 d5
    clear hkp hmk d1 d2 d3 d6 hcr
    have HU := Box.mk hu; clear hu
    have n1 : ¬ bb = p := fun e => hf.d1 e.symm
    have n2 : ¬ p = bb := hf.d1
    by_cases hlt : k < str.size
    · have hAk : A + k < s.b.length := by omega
      obtain ⟨old, ho⟩ : ∃ old, s.b[A + k]? = some old := ⟨_, List.getElem?_eq_getElem hAk⟩
      have hc : str.data.toList[k]? = some str[k] := by rw [List.getElem?_eq_getElem (by simpa using hlt)]; rfl
      have hob : (progBytes s.b A (str.data.toList.take k) G s.keep s.mask)[A + k]? = some old := by
        rw [progBytes_get _ _ _ _ _ _ _ (by left; simp; omega)]; exact ho
      obtain ⟨e1, e2⟩ := hf.byte (A + k) old hob
      have hst := progBytes_step s.b A str.data.toList G s.keep s.mask k str[k] old hc ho
      have HST := Box.mk hst; clear hst
      have HFR := Box.mk hf; clear hf
      have hset := fun (v : UInt8) (n : Int) hn => ((HFR.out.upd (S := []) (Upd.refl _ _).drew (by simp) (by simp) (by simp)).setb (A + k) (by simp only [progBytes_length]; exact hAk) v n hn)
      have HSET := Box.mk hset; clear hset ho hob hc
      have q1 := and_u8 old str[k]; have q2 := or_u8 str[k] s.mask; have q3 := and_u8 old (str[k] ||| s.mask)
      have hcv := str[k].toNat_lt; have hov := old.toNat_lt
      have hkI : (k : Int) < (str.size : Int) := by omega
      have hAkI : (A : Int) + (k : Int) < (s.b.length : Int) := by omega
      cases G
      · have w1 : IntKind.i64.wrap ((A : Int) + (k : Int)) = (A : Int) + (k : Int) := IntWalk.i64_in _ (by omega)
        have w2 : ((A : Int) + (k : Int)).toNat = A + k := by omega
        have w3 : 0 ≤ (A : Int) + (k : Int) := by omega
        go_wp2_with fail
        go_still_tail 14, (by kernel_rfl)
        change wpList _ _ _ _ _ wr.drew
        clear w1 w2 w3
        go_wp2
        refine ⟨⟨k + 1, by omega, by go_num, (HSET.out (old &&& str[k]) _ (by rw [UInt8.toNat_and])).to ?_, HU.out.drew.setCell (by simp) _⟩, by simp [intOf]; omega⟩
        rw [← HST.out]; simp [progByte]
      · by_cases hc1 : (k : Int) < s.keep
        · have hc1' : decide ((k : Int) < s.keep) = true := by simpa using hc1
          have hc2' : ((k : Int) == s.keep) = false := by rw [beq_eq_false_iff_ne]; omega
          have HC1 := Box.mk hc1
          have w1 : IntKind.i64.wrap ((A : Int) + (k : Int)) = (A : Int) + (k : Int) := IntWalk.i64_in _ (by omega)
          have w2 : ((A : Int) + (k : Int)).toNat = A + k := by omega
          have w3 : 0 ≤ (A : Int) + (k : Int) := by omega
          go_wp2_with fail
          go_still_tail 14, (by kernel_rfl)
          change wpList _ _ _ _ _ wr.drew
          clear w1 w2 w3
          go_wp2
          refine ⟨⟨k + 1, by omega, by go_num, (HSET.out (old &&& str[k]) _ (by rw [UInt8.toNat_and])).to ?_, HU.out.drew.setCell (by simp) _⟩, by simp [intOf]; omega⟩
          rw [← HST.out]; simp [progByte, HC1.out]
        · have hc1' : decide ((k : Int) < s.keep) = false := by simpa using hc1
          have HC1 := Box.mk hc1
          by_cases hc2 : (k : Int) = s.keep
          · have hc2' : ((k : Int) == s.keep) = true := by simpa using hc2
            have HC2 := Box.mk hc2; clear hc2
            have w1 : IntKind.i64.wrap ((A : Int) + (k : Int)) = (A : Int) + (k : Int) := IntWalk.i64_in _ (by omega)
            have w2 : ((A : Int) + (k : Int)).toNat = A + k := by omega
            have w3 : 0 ≤ (A : Int) + (k : Int) := by omega
            go_wp2_with fail
            go_still_tail 19, (by kernel_rfl)
            change wpList _ _ _ _ _ wr.drew
            clear w1 w2 w3
            go_wp2
            refine ⟨⟨k + 1, by omega, by go_num, (HSET.out (old &&& (str[k] ||| s.mask)) _ (by rw [← UInt8.toNat_or, and_u8])).to ?_, HU.out.drew.setCell (by simp) _⟩, by simp [intOf]; omega⟩
            rw [← HST.out]; simp only [progByte]; rw [if_neg (by simp; omega), if_pos HC2.out]
          · have hc2' : ((k : Int) == s.keep) = false := by rw [beq_eq_false_iff_ne]; exact hc2
            have HC2 : Box (s.keep < (k : Int)) := ⟨by omega⟩
            clear hc2
            go_wp2
            refine ⟨⟨k + 1, by omega, by go_num, HFR.out.to ?_, HU.out⟩, by simp [intOf]; omega⟩
            rw [progBytes_rest _ _ _ _ _ _ HC2.out, progBytes_rest _ _ _ _ _ _ (by have := HC2.out; omega : s.keep < ((k + 1 : Nat) : Int))]
    · have hk2 : k = str.size := by omega
      subst hk2
      have HFR := Box.mk hf; clear hf
      cases G
      all_goals
        go_wp2
        go_ret
        refine ⟨?_, HFR.out.to ?_, HU.out⟩
        · rw [HG.out]; first | (rw [e1.out]; rfl) | (rw [e2.out]; rfl)
        · rw [HG.out, List.take_of_length_le (by simp)]

set_option maxRecDepth 100000 in
set_option maxHeartbeats 2000000 in
/-- The document's Program. -/
theorem rprogram_any (p bb cb : Nat) (s : FS) (at_ : Int) (str : ByteArray) (w : World) (h : Fl 64 w p bb cb s) (hok : s.Ok) (ba : -9223372036854775808 ≤ at_ ∧ at_ ≤ 9223372036854775807) (hs : str.size ≤ 9223372036854775807) :
    Calls Try.prog 52 #[.pointer (some ⟨p, 0, none⟩), .int .i64 at_, .string str] w fun e w' => e = .returned (.int .i64 (s.program at_ str.data.toList).2) ∧ Fl 64 w' p bb cb (s.program at_ str.data.toList).1 ∧ Upd [p, bb] w w' := by
  have hlen : str.data.toList.length = str.size := by simp
  have HF := Box.mk h
  obtain ⟨bcap, ccap, hb, hc, c0, c1, c2, c3, c4, c5, c6⟩ := h.cells
  clear c0 c1 c2 c3 c4 c5 hb hc h
  by_cases hd : s.dead = true
  · have E : Box (s.program at_ str.data.toList = (s, 2)) := ⟨by unfold FS.program; rw [if_pos hd]⟩
    rw [hd] at c6; clear hd
    rw [E.out]
    go_enter Try.func52, Try.ntmps52
    go_wp2
    go_ret
    exact ⟨rfl, HF.out, Upd.refl _ _⟩
  · by_cases ho : onB s.b.length at_ str.size = true
    · by_cases hn : str.size = 0
      · have E : Box (s.program at_ str.data.toList = (s, 0)) := ⟨by
          unfold FS.program; rw [if_neg hd, hlen, if_neg (by rw [ho]; simp), if_pos (List.eq_nil_of_length_eq_zero (by rw [hlen, hn]))]⟩
        rw [E.out]
        have hd' : s.dead = false := by simpa using hd
        rw [hd'] at c6; clear hd hd'
        have hz : ((str.size : Int) == 0) = true := by rw [beq_iff_eq]; omega
        have HO := Box.mk ho; clear ho hlen hn
        go_enter Try.func52, Try.ntmps52
        go_wp2_with fail
        refine (ron_any p bb cb s at_ str.size _ HF.out hok ba (by omega)).mono ?_
        rintro e w1 ⟨rfl, rfl⟩
        rw [HO.out]
        go_wp2
        go_ret
        exact ⟨rfl, HF.out, Upd.refl _ _⟩
      · have hon : 0 ≤ at_ ∧ 0 ≤ (str.size : Int) ∧ at_ + str.size ≤ s.b.length := by unfold onB at ho; simpa using ho
        by_cases hp : at_ / 64 = (at_ + str.size - 1) / 64
        · obtain ⟨A, rfl⟩ := Int.eq_ofNat_of_zero_le hon.1
          have E : Box (s.program A str.data.toList = ({ s.step with b := progBytes s.b A str.data.toList s.goes s.keep s.mask }, toldI s.goes)) := ⟨by
            unfold FS.program; rw [if_neg hd, hlen, if_neg (by rw [ho]; simp), if_neg (fun e => hn (by rw [← hlen, e]; rfl)), if_neg (by simpa using hp)]; rfl⟩
          rw [E.out]
          exact rprog_loop p bb cb A s str w HF.out hok (by simpa using hd) (by omega) hn (by omega)
        · have E : Box (s.program at_ str.data.toList = (s, 112)) := ⟨by
            unfold FS.program; rw [if_neg hd, hlen, if_neg (by rw [ho]; simp), if_neg (fun e => hn (by rw [← hlen, e]; rfl)), if_pos hp]⟩
          rw [E.out]
          have hd' : s.dead = false := by simpa using hd
          rw [hd'] at c6; clear hd hd'
          have hlb : (s.b.length : Int) ≤ 131072 := by have := hok.len; have := hok.few; omega
          have hz : ((str.size : Int) == 0) = false := by rw [beq_eq_false_iff_ne]; omega
          have hpg : 64 < at_ % 64 + (str.size : Int) := by omega
          have h0 := hon.1
          have h1 : (str.size : Int) ≤ 131072 := by omega
          have HO := Box.mk ho
          clear ho hlen hn hp hon
          go_enter Try.func52, Try.ntmps52
          go_wp2_with fail
          refine (ron_any p bb cb s at_ str.size _ HF.out hok ba (by omega)).mono ?_
          rintro e w1 ⟨rfl, rfl⟩
          rw [HO.out]
          go_wp2
          go_ret
          exact ⟨rfl, HF.out, Upd.refl _ _⟩
    · have ho' : onB s.b.length at_ str.size = false := by simpa using ho
      have E : Box (s.program at_ str.data.toList = (s, 111)) := ⟨by unfold FS.program; rw [if_neg hd, hlen, if_pos ho']⟩
      rw [E.out]
      have hd' : s.dead = false := by simpa using hd
      rw [hd'] at c6; clear hd hd'
      have HO := Box.mk ho'; clear ho ho' hlen
      go_enter Try.func52, Try.ntmps52
      go_wp2_with fail
      refine (ron_any p bb cb s at_ str.size _ HF.out hok ba (by omega)).mono ?_
      rintro e w1 ⟨rfl, rfl⟩
      rw [HO.out]
      go_wp2
      go_ret
      exact ⟨rfl, HF.out, Upd.refl _ _⟩
end Go.Proofs.Ytaeomiedmjedgaa
