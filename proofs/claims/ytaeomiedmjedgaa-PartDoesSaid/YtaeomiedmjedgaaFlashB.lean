/- The flash: Program, as a function of its state, and the program's own. -/
import Derived.Test.YtaeomiedmjedgaaFlashA
namespace Go.Proofs.Ytaeomiedmjedgaa
set_option linter.unusedVariables false
open Go Go.RowKit

/-- What a byte becomes when the i-th byte of a Program comes to it. -/
def progByte (gone : Bool) (keep : Int) (mask : UInt8) (i : Nat) (old c : UInt8) : UInt8 :=
  if gone = false ∨ (i : Int) < keep then old &&& c else if (i : Int) = keep then old &&& (c ||| mask) else old
def progBytes (b : List UInt8) (A : Nat) (l : List UInt8) (gone : Bool) (keep : Int) (mask : UInt8) : List UInt8 :=
  b.mapIdx fun k old => if A ≤ k then (match l[k - A]? with | some c => progByte gone keep mask (k - A) old c | none => old) else old
theorem progBytes_length (b : List UInt8) (A : Nat) (l : List UInt8) (gone : Bool) (keep : Int) (mask : UInt8) : (progBytes b A l gone keep mask).length = b.length := by simp [progBytes]
theorem progBytes_nil (b : List UInt8) (A : Nat) (gone : Bool) (keep : Int) (mask : UInt8) : progBytes b A [] gone keep mask = b := by
  apply List.ext_getElem? ; intro i; simp [progBytes]
theorem progBytes_get (b : List UInt8) (A : Nat) (l : List UInt8) (gone : Bool) (keep : Int) (mask : UInt8) (k : Nat) (h : l.length ≤ k - A ∨ k < A) : (progBytes b A l gone keep mask)[k]? = b[k]? := by
  simp only [progBytes, List.getElem?_mapIdx]
  cases hb : b[k]? with
  | none => rfl
  | some o =>
    simp only [Option.map_some, Option.some.injEq]
    split
    · rename_i hA
      rw [List.getElem?_eq_none (by omega)]
    · rfl
theorem progBytes_step (b : List UInt8) (A : Nat) (l : List UInt8) (gone : Bool) (keep : Int) (mask : UInt8) (i : Nat) (c old : UInt8) (hc : l[i]? = some c) (ho : b[A + i]? = some old) :
    (progBytes b A (l.take i) gone keep mask).set (A + i) (progByte gone keep mask i old c) = progBytes b A (l.take (i + 1)) gone keep mask := by
  have hil : i < l.length := (List.getElem?_eq_some_iff.1 hc).1
  have hbl : A + i < b.length := (List.getElem?_eq_some_iff.1 ho).1
  apply List.ext_getElem?
  intro k
  rw [List.getElem?_set]
  split
  · rename_i h; subst h
    simp only [progBytes_length, hbl, if_true]
    simp only [progBytes, List.getElem?_mapIdx, ho, Option.map_some]
    rw [if_pos (by omega), show A + i - A = i from by omega, List.getElem?_take, if_pos (by omega), hc]
  · rename_i h
    simp only [progBytes, List.getElem?_mapIdx]
    congr 1
    funext old
    by_cases hA : A ≤ k
    · rw [if_pos hA, if_pos hA, List.getElem?_take, List.getElem?_take]
      by_cases hk : k - A < i
      · rw [if_pos hk, if_pos (by omega)]
      · rw [if_neg hk, if_neg (by omega)]
    · rw [if_neg hA, if_neg hA]
theorem progBytes_rest (b : List UInt8) (A : Nat) (l : List UInt8) (keep : Int) (mask : UInt8) (i : Nat) (hi : keep < i) :
    progBytes b A (l.take i) true keep mask = progBytes b A l true keep mask := by
  apply List.ext_getElem?
  intro k
  simp only [progBytes, List.getElem?_mapIdx]
  congr 1
  funext old
  by_cases hA : A ≤ k
  · rw [if_pos hA, if_pos hA, List.getElem?_take]
    by_cases hk : k - A < i
    · rw [if_pos hk]
    · rw [if_neg hk]
      cases hl : l[k - A]? with
      | none => rfl
      | some c => simp only [progByte]; rw [if_neg (by simp; omega), if_neg (by omega)]
  · rw [if_neg hA, if_neg hA]

/-- A byte of the flash set. -/
theorem Fl.setb {t : TypeId} {w : World} {p bb cb : Nat} {s : FS} (h : Fl t w p bb cb s) (k : Nat) (hk : k < s.b.length) (v : UInt8) (n : Int) (hn : n = (v.toNat : Int)) :
    Fl t (w.setCell ⟨bb, k, none⟩ (.int .u8 n)) p bb cb { s with b := s.b.set k v } := by
  subst hn
  obtain ⟨a, b, e1, e2, g1⟩ := h.st
  obtain ⟨x, fr, g2, hfr⟩ := h.by_
  obtain ⟨y, g3⟩ := h.cn
  refine ⟨⟨a, b, by simpa using e1, e2, by rw [heap_setCell_other _ _ _ _ h.d1]; simpa using g1⟩, ⟨x, fr, ?_, by simpa using hfr⟩, ⟨y, by rw [heap_setCell_other _ _ _ _ h.d3.symm]; exact g3⟩, h.d1, h.d2, h.d3⟩
  rw [heap_set, if_pos rfl, g2]
  simp only [Option.map_some, Obj.put]
  congr 2
  rw [List.setIfInBounds_toArray, List.set_append_left _ _ (by simpa using hk), show Value.int .u8 (v.toNat : Int) = bval v from rfl, ← List.map_set]
theorem Fl.byte {t : TypeId} {w : World} {p bb cb : Nat} {s : FS} (h : Fl t w p bb cb s) (k : Nat) (u : UInt8) (hk : s.b[k]? = some u) : w.cell? ⟨bb, k, none⟩ = some (.int .u8 (u.toNat : Int)) ∧ w.frozen? ⟨bb, k, none⟩ = false := by
  obtain ⟨x, fr, g2, hfr⟩ := h.by_
  have hkl := (List.getElem?_eq_some_iff.1 hk).1
  refine ⟨?_, ?_⟩
  rotate_left
  · simp only [World.frozen?, g2]
    rcases hfr with rfl | hfr
    · simp
    · simp; omega
  rw [cell_of_row _ _ _ _ _ _ g2, List.getElem?_toArray, List.getElem?_append_left (by have := (List.getElem?_eq_some_iff.1 hk).1; simpa using this), List.getElem?_map, hk]; rfl

theorem and_u8 (a c : UInt8) : bits .and .u8 (a.toNat : Int) (c.toNat : Int) = ((a &&& c).toNat : Int) := by rw [u8_and_nat _ _ a.toNat_lt c.toNat_lt, UInt8.toNat_and]
theorem or_u8 (a c : UInt8) : bits .or .u8 (a.toNat : Int) (c.toNat : Int) = ((a ||| c).toNat : Int) := by rw [u8_or_nat _ _ a.toNat_lt c.toNat_lt, UInt8.toNat_or]

/-- Program: the state behind it, and the error's number. -/
def FS.program (s : FS) (at_ : Int) (l : List UInt8) : FS × Int :=
  if s.dead then (s, 2)
  else if onB s.b.length at_ l.length = false then (s, 111)
  else if l = [] then (s, 0)
  else if at_ / 64 ≠ (at_ + l.length - 1) / 64 then (s, 112)
  else ({ s.step with b := progBytes s.b at_.toNat l s.goes s.keep s.mask }, toldI s.goes)

set_option maxRecDepth 100000 in
set_option maxHeartbeats 2000000 in
theorem prog_loop (p bb cb A : Nat) (s : FS) (str : ByteArray) (w : World) (h : Fl 75 w p bb cb s) (hok : s.Ok) (hd : s.dead = false) (hl : A + str.size ≤ s.b.length) (hne : str.size ≠ 0) (hp : (A : Int) / 64 = ((A : Int) + str.size - 1) / 64) :
    Calls Try.prog 17 #[.pointer (some ⟨p, 0, none⟩), .int .i64 A, .string str] w fun e w' => e = .returned (.int .i64 (toldI s.goes)) ∧ Fl 75 w' p bb cb { s.step with b := progBytes s.b A str.data.toList s.goes s.keep s.mask } ∧ Upd [p, bb] w w' := by
  obtain ⟨bcap, ccap, hb, hc, c0, c1, c2, c3, c4, c5, c6⟩ := h.cells
  rw [hd] at c6
  have hb2 : (s.b.length : Int) ≤ 131072 := by have := hok.len; have := hok.few; omega
  have hon : onB s.b.length (A : Int) (str.size : Int) = true := by unfold onB; rw [decide_eq_true_iff]; omega
  have hstr : (str.toList == []) = false := by rw [ByteArray.toList_eq, beq_eq_false_iff_ne]; intro e; apply hne; have := congrArg List.length e; simpa using this
  have hstr2 : str.toList.isEmpty = false := by simpa using hstr
  have hpg : ((A : Int) / 64 != ((A : Int) + str.size - 1) / 64) = false := by rw [bne_eq_false_iff_eq]; exact hp
  have HP := Box.mk hp; clear hp hd
  have HON := Box.mk hon; clear hon
  have HF := Box.mk h
  clear c1 c2 c3 c4 c5 hc h
  go_enter Try.func17, Try.ntmps17
  go_wp2_with fail
  refine (within_any p bb cb s A str.size _ HF.out hok (by omega) (by omega)).mono ?_
  rintro e w1 ⟨rfl, rfl⟩
  rw [HON.out]
  go_wp2_with fail
  refine (step_any p bb cb s _ HF.out hok).mono ?_
  rintro e w1 ⟨rfl, hf1, hu1⟩
  have hkeep := hok.keep
  obtain ⟨bcap1, ccap1, hb1, hc1, d0, d1, d2, d3, d4, d5, d6⟩ := hf1.cells
  have HF1 := Box.mk hf1; clear hf1
  have HU1 := Box.mk hu1; clear hu1
  have HNE := Box.mk hne; clear hne
  have HL := Box.mk hl
  clear c0 c6 d0 d1 d2 d3 d4 d5 d6 hb1 hc1 hb
  generalize hG : s.goes = G
  have HG := Box.mk hG; clear hG
  go_wp2_with fail
  go_loopw [39] (fun i wr => ∃ k : Nat, k ≤ str.size ∧ i = .int .i64 k ∧ Fl 75 wr p bb cb { s.step with b := progBytes s.b A (str.data.toList.take k) G s.keep s.mask } ∧ Upd [p, bb] w wr) (fun i _ => str.size - (intOf i).toNat)
  case atStart => exact ⟨0, by omega, rfl, HF1.out.to (by rw [List.take_zero, progBytes_nil]; rfl), HU1.out.mono (by simp)⟩
  case round =>
    clear HF1 HU1
    obtain ⟨k, hk, rfl, hf, hu⟩ := hrel
    obtain ⟨bcapr, ccapr, hbr, hcr, d0, d1, d2, d3, d4, d5, d6⟩ := hf.cells
    simp only [progBytes_length] at d0 hbr
    have hkp : s.step.keep = s.keep := rfl
    have hmk : s.step.mask = s.mask := rfl
    simp only [hkp, hmk] at d4 d5
    clear hkp hmk d1 d2 d3 d6 hcr
    have HU := Box.mk hu; clear hu
    by_cases hlt : k < str.size
    · have hAk : A + k < s.b.length := by omega
      obtain ⟨old, ho⟩ : ∃ old, s.b[A + k]? = some old := ⟨_, List.getElem?_eq_getElem hAk⟩
      have hc : str.data.toList[k]? = some str[k] := by rw [List.getElem?_eq_getElem (by simpa using hlt)]; rfl
      have hob : (progBytes s.b A (str.data.toList.take k) G s.keep s.mask)[A + k]? = some old := by
        rw [progBytes_get _ _ _ _ _ _ _ (by left; simp; omega)]; exact ho
      obtain ⟨e1, e2⟩ := hf.byte (A + k) old hob
      have hst := progBytes_step s.b A str.data.toList G s.keep s.mask k str[k] old hc ho
      have HST := Box.mk hst; clear hst
      have HFR := Box.mk hf; clear hf
      have hset := fun (v : UInt8) (n : Int) hn => (HFR.out.setb (A + k) (by simp only [progBytes_length]; exact hAk) v n hn)
      have HSET := Box.mk hset; clear hset ho hob hc
      have q1 := and_u8 old str[k]; have q2 := or_u8 str[k] s.mask; have q3 := and_u8 old (str[k] ||| s.mask)
      have hcv := str[k].toNat_lt; have hov := old.toNat_lt
      have hkI : (k : Int) < (str.size : Int) := by omega
      cases G
      · go_wp2
        refine ⟨⟨k + 1, by omega, by go_num, (HSET.out (old &&& str[k]) _ (by rw [UInt8.toNat_and])).to ?_, HU.out.setCell (by simp) _⟩, by simp [intOf]; omega⟩
        rw [← HST.out]; simp [progByte]
      · by_cases hc1 : (k : Int) < s.keep
        · have hc1' : decide (s.keep ≤ (k : Int)) = false := by simpa using hc1
          have HC1 := Box.mk hc1
          go_wp2
          refine ⟨⟨k + 1, by omega, by go_num, (HSET.out (old &&& str[k]) _ (by rw [UInt8.toNat_and])).to ?_, HU.out.setCell (by simp) _⟩, by simp [intOf]; omega⟩
          rw [← HST.out]; simp [progByte, HC1.out]
        · have hc1' : decide (s.keep ≤ (k : Int)) = true := by simp; omega
          have HC1 := Box.mk hc1
          by_cases hc2 : (k : Int) = s.keep
          · have hc2' : ¬ s.keep < (k : Int) := by omega
            have HC2 := Box.mk hc2; clear hc2
            go_wp2
            refine ⟨⟨k + 1, by omega, by go_num, (HSET.out (old &&& (str[k] ||| s.mask)) _ (by rw [← UInt8.toNat_or, and_u8])).to ?_, HU.out.setCell (by simp) _⟩, by simp [intOf]; omega⟩
            rw [← HST.out]; simp only [progByte]; rw [if_neg (by simp; omega), if_pos HC2.out]
          · have hc2' : s.keep < (k : Int) := by omega
            have HC2 := Box.mk hc2'
            clear hc2
            go_wp2_with fail
            refine (told_any true _).mono ?_
            rintro e w2 ⟨rfl, rfl⟩
            go_wp2
            go_ret
            refine ⟨by rw [HG.out]; rfl, HFR.out.to ?_, HU.out⟩
            rw [HG.out, progBytes_rest _ _ _ _ _ _ HC2.out]
    · have hk2 : k = str.size := by omega
      subst hk2
      have HFR := Box.mk hf; clear hf
      go_wp2_with fail
      refine (told_any G _).mono ?_
      rintro e w2 ⟨rfl, rfl⟩
      go_wp2
      go_ret
      refine ⟨by rw [HG.out]; rfl, HFR.out.to ?_, HU.out⟩
      rw [HG.out, List.take_of_length_le (by simp)]

/-- The numbers of a state stay in their bounds. -/
theorem FS.Ok.step {s : FS} (h : s.Ok) : s.step.Ok := by
  have := h.armed
  exact ⟨by simp only [FS.step]; split <;> omega, h.keep, h.len, h.few⟩
theorem FS.Ok.setb {s : FS} (h : s.Ok) (b : List UInt8) (hb : b.length = s.b.length) : ({ s with b := b } : FS).Ok := ⟨h.armed, h.keep, by simp only; rw [hb]; exact h.len, h.few⟩
theorem FS.program_ok {s : FS} (h : s.Ok) (at_ : Int) (l : List UInt8) : (s.program at_ l).1.Ok := by
  unfold FS.program
  (repeat' split) <;> first | exact h | exact h.step.setb _ (progBytes_length _ _ _ _ _ _)

set_option maxRecDepth 100000 in
set_option maxHeartbeats 2000000 in
/-- (*Flash).Program. -/
theorem program_any (p bb cb : Nat) (s : FS) (at_ : Int) (str : ByteArray) (w : World) (h : Fl 75 w p bb cb s) (hok : s.Ok) (ba : -9223372036854775808 ≤ at_ ∧ at_ ≤ 9223372036854775807) (hs : str.size ≤ 9223372036854775807) :
    Calls Try.prog 17 #[.pointer (some ⟨p, 0, none⟩), .int .i64 at_, .string str] w fun e w' => e = .returned (.int .i64 (s.program at_ str.data.toList).2) ∧ Fl 75 w' p bb cb (s.program at_ str.data.toList).1 ∧ Upd [p, bb] w w' := by
  have hlen : str.data.toList.length = str.size := by simp
  have HF := Box.mk h
  obtain ⟨bcap, ccap, hb, hc, c0, c1, c2, c3, c4, c5, c6⟩ := h.cells
  clear c0 c1 c2 c3 c4 c5 hb hc h
  by_cases hd : s.dead = true
  · have E : Box (s.program at_ str.data.toList = (s, 2)) := ⟨by unfold FS.program; rw [if_pos hd]⟩
    rw [hd] at c6; clear hd
    rw [E.out]
    go_enter Try.func17, Try.ntmps17
    go_wp2
    go_ret
    exact ⟨rfl, HF.out, Upd.refl _ _⟩
  · by_cases ho : onB s.b.length at_ str.size = true
    · by_cases hn : str.size = 0
      · have E : Box (s.program at_ str.data.toList = (s, 0)) := ⟨by
          unfold FS.program; rw [if_neg hd, hlen, if_neg (by rw [ho]; simp), if_pos (List.eq_nil_of_length_eq_zero (by rw [hlen, hn]))]⟩
        rw [E.out]
        have hd' : s.dead = false := by simpa using hd
        rw [hd'] at c6; clear hd hd'
        have hstr2 : str.toList.isEmpty = true := by rw [ByteArray.toList_eq, List.isEmpty_iff]; exact List.eq_nil_of_length_eq_zero (by rw [hlen, hn])
        have hstr : str.toList = [] := by simpa using hstr2
        have HO := Box.mk ho; clear ho hlen hn
        go_enter Try.func17, Try.ntmps17
        go_wp2_with fail
        refine (within_any p bb cb s at_ str.size _ HF.out hok ba (by omega)).mono ?_
        rintro e w1 ⟨rfl, rfl⟩
        rw [HO.out]
        go_wp2
        go_ret
        exact ⟨rfl, HF.out, Upd.refl _ _⟩
      · have hon : 0 ≤ at_ ∧ 0 ≤ (str.size : Int) ∧ at_ + str.size ≤ s.b.length := by unfold onB at ho; simpa using ho
        by_cases hp : at_ / 64 = (at_ + str.size - 1) / 64
        · obtain ⟨A, rfl⟩ := Int.eq_ofNat_of_zero_le hon.1
          have E : Box (s.program A str.data.toList = ({ s.step with b := progBytes s.b A str.data.toList s.goes s.keep s.mask }, toldI s.goes)) := ⟨by
            unfold FS.program; rw [if_neg hd, hlen, if_neg (by rw [ho]; simp), if_neg (fun e => hn (by rw [← hlen, e]; rfl)), if_neg (by simpa using hp)]; rfl⟩
          rw [E.out]
          exact prog_loop p bb cb A s str w HF.out hok (by simpa using hd) (by omega) hn hp
        · have E : Box (s.program at_ str.data.toList = (s, 112)) := ⟨by
            unfold FS.program; rw [if_neg hd, hlen, if_neg (by rw [ho]; simp), if_neg (fun e => hn (by rw [← hlen, e]; rfl)), if_pos hp]⟩
          rw [E.out]
          have hd' : s.dead = false := by simpa using hd
          rw [hd'] at c6; clear hd hd'
          have hlb : (s.b.length : Int) ≤ 131072 := by have := hok.len; have := hok.few; omega
          have hstr : (str.toList == []) = false := by rw [ByteArray.toList_eq, beq_eq_false_iff_ne]; intro e; apply hn; have := congrArg List.length e; simpa using this
          have hstr2 : str.toList.isEmpty = false := by simpa using hstr
          have hpg : (at_ / 64 != (at_ + str.size - 1) / 64) = true := by rw [bne_iff_ne]; exact hp
          have HO := Box.mk ho
          have HN := Box.mk hn
          clear ho hlen hn hp
          go_enter Try.func17, Try.ntmps17
          go_wp2_with fail
          refine (within_any p bb cb s at_ str.size _ HF.out hok ba (by omega)).mono ?_
          rintro e w1 ⟨rfl, rfl⟩
          rw [HO.out]
          have hpos : 1 ≤ (str.size : Int) := by have := HN.out; omega
          go_wp2
          go_ret
          exact ⟨rfl, HF.out, Upd.refl _ _⟩
    · have ho' : onB s.b.length at_ str.size = false := by simpa using ho
      have E : Box (s.program at_ str.data.toList = (s, 111)) := ⟨by unfold FS.program; rw [if_neg hd, hlen, if_pos ho']⟩
      rw [E.out]
      have hd' : s.dead = false := by simpa using hd
      rw [hd'] at c6; clear hd hd'
      have HO := Box.mk ho'; clear ho ho' hlen
      go_enter Try.func17, Try.ntmps17
      go_wp2_with fail
      refine (within_any p bb cb s at_ str.size _ HF.out hok ba (by omega)).mono ?_
      rintro e w1 ⟨rfl, rfl⟩
      rw [HO.out]
      go_wp2
      go_ret
      exact ⟨rfl, HF.out, Upd.refl _ _⟩
end Go.Proofs.Ytaeomiedmjedgaa
