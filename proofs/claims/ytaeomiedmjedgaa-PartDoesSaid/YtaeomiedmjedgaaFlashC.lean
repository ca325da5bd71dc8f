/- The flash: Erase. -/
import Derived.Test.YtaeomiedmjedgaaFlashB
namespace Go.Proofs.Ytaeomiedmjedgaa
set_option linter.unusedVariables false
open Go Go.RowKit

/-- What a byte of page pg becomes in an Erase. -/
def eraseByte (gone : Bool) (keep : Int) (mask : UInt8) (pg : Nat) (old : UInt8) : UInt8 :=
  if gone = false ∨ (pg : Int) < keep then 255 else if (pg : Int) = keep then old ||| mask else old
def eraseUpto (b : List UInt8) (base m : Nat) (gone : Bool) (keep : Int) (mask : UInt8) : List UInt8 :=
  b.mapIdx fun k old => if base ≤ k ∧ k < base + m then eraseByte gone keep mask ((k - base) / 64) old else old
theorem eraseUpto_length (b : List UInt8) (base m : Nat) (gone : Bool) (keep : Int) (mask : UInt8) : (eraseUpto b base m gone keep mask).length = b.length := by simp [eraseUpto]
theorem eraseUpto_zero (b : List UInt8) (base : Nat) (gone : Bool) (keep : Int) (mask : UInt8) : eraseUpto b base 0 gone keep mask = b := by
  apply List.ext_getElem?; intro k
  simp only [eraseUpto, List.getElem?_mapIdx]
  cases b[k]? with
  | none => rfl
  | some o => simp only [Option.map_some]; rw [if_neg (by omega)]
theorem eraseUpto_get (b : List UInt8) (base m : Nat) (gone : Bool) (keep : Int) (mask : UInt8) (k : Nat) (h : base + m ≤ k) : (eraseUpto b base m gone keep mask)[k]? = b[k]? := by
  simp only [eraseUpto, List.getElem?_mapIdx]
  cases b[k]? with
  | none => rfl
  | some o => simp only [Option.map_some]; rw [if_neg (by omega)]
theorem eraseUpto_step (b : List UInt8) (base m : Nat) (gone : Bool) (keep : Int) (mask : UInt8) (old : UInt8) (ho : b[base + m]? = some old) :
    (eraseUpto b base m gone keep mask).set (base + m) (eraseByte gone keep mask (m / 64) old) = eraseUpto b base (m + 1) gone keep mask := by
  have hbl : base + m < b.length := (List.getElem?_eq_some_iff.1 ho).1
  apply List.ext_getElem?; intro k
  rw [List.getElem?_set]
  split
  · rename_i h; subst h
    simp only [eraseUpto_length, hbl, if_true]
    simp only [eraseUpto, List.getElem?_mapIdx, ho, Option.map_some]
    rw [if_pos (by omega), show base + m - base = m from by omega]
  · rename_i h
    simp only [eraseUpto, List.getElem?_mapIdx]
    congr 1; funext old
    by_cases hA : base ≤ k ∧ k < base + m
    · rw [if_pos hA, if_pos (by omega)]
    · rw [if_neg hA, if_neg (by omega)]
theorem eraseUpto_rest (b : List UInt8) (base pg : Nat) (keep : Int) (mask : UInt8) (hp : keep < pg) (hp8 : pg ≤ 8) :
    eraseUpto b base (64 * pg) true keep mask = eraseUpto b base 512 true keep mask := by
  apply List.ext_getElem?; intro k
  simp only [eraseUpto, List.getElem?_mapIdx]
  congr 1; funext old
  by_cases hA : base ≤ k ∧ k < base + 64 * pg
  · rw [if_pos hA, if_pos (by omega)]
  · rw [if_neg hA]
    split
    · rename_i hB
      have hq : pg ≤ (k - base) / 64 := by omega
      simp only [eraseByte]; rw [if_neg (by simp; omega), if_neg (by omega)]
    · rfl
theorem or255 (x : UInt8) : x ||| 255 = 255 := by
  apply UInt8.toNat_inj.1
  have hx := x.toNat_lt
  rw [UInt8.toNat_or, show (255 : UInt8).toNat = 255 from rfl]
  generalize x.toNat = n at hx
  apply Nat.eq_of_testBit_eq
  intro i
  rw [Nat.testBit_or, show (255 : Nat) = 2 ^ 8 - 1 from rfl, Nat.testBit_two_pow_sub_one]
  by_cases hi : i < 8
  · simp [hi]
  · simp only [hi, decide_false, Bool.or_false]
    exact Nat.testBit_lt_two_pow (Nat.lt_of_lt_of_le hx (Nat.pow_le_pow_right (by omega) (by omega)))

/-- A count set. -/
theorem Fl.setn {t : TypeId} {w : World} {p bb cb : Nat} {s : FS} (h : Fl t w p bb cb s) (k : Nat) (hk : k < s.n.length) (v : Int) :
    Fl t (w.setCell ⟨cb, k, none⟩ (.int .i64 v)) p bb cb { s with n := s.n.set k v } := by
  obtain ⟨a, b, e1, e2, g1⟩ := h.st
  obtain ⟨x, fr, g2, hfr⟩ := h.by_
  obtain ⟨y, g3⟩ := h.cn
  refine ⟨⟨a, b, e1, by simpa using e2, by rw [heap_setCell_other _ _ _ _ h.d2]; simpa using g1⟩, ⟨x, fr, by rw [heap_setCell_other _ _ _ _ h.d3]; exact g2, hfr⟩, ⟨y, ?_⟩, h.d1, h.d2, h.d3⟩
  rw [heap_setCell_same _ _ _ _ _ _ g3]
  congr 2
  rw [List.setIfInBounds_toArray, List.set_append_left _ _ (by simpa using hk), show Value.int .i64 v = nval v from rfl, ← List.map_set]
theorem Fl.count {t : TypeId} {w : World} {p bb cb : Nat} {s : FS} (h : Fl t w p bb cb s) (k : Nat) (u : Int) (hk : s.n[k]? = some u) : w.cell? ⟨cb, k, none⟩ = some (.int .i64 u) ∧ w.frozen? ⟨cb, k, none⟩ = false := by
  obtain ⟨x, g2⟩ := h.cn
  refine ⟨?_, frozen_of_row _ _ _ _ _ g2⟩
  rw [cell_of_row _ _ _ _ _ _ g2, List.getElem?_toArray, List.getElem?_append_left (by have := (List.getElem?_eq_some_iff.1 hk).1; simpa using this), List.getElem?_map, hk]; rfl

/-- Erase: the state behind it, and the error's number. -/
def FS.bump (s : FS) (k : Nat) : List Int := s.n.set k (wrap64 (s.n.getD k 0 + 1))
@[irreducible] def blkB (l : Nat) (block : Int) : Bool := decide (0 ≤ block ∧ block < l)
def FS.erase (s : FS) (block : Int) : FS × Int :=
  if s.dead then (s, 2)
  else if blkB s.n.length block = false then (s, 111)
  else ({ s.step with n := s.bump block.toNat, b := eraseUpto s.b (512 * block.toNat) 512 s.goes s.keep s.mask }, toldI s.goes)

theorem blocks_any (p bb cb : Nat) (s : FS) (w : World) (h : Fl 75 w p bb cb s) :
    Calls Try.prog 43 #[.pointer (some ⟨p, 0, none⟩)] w fun e w' => e = .returned (.int .i64 s.n.length) ∧ w = w' := by
  obtain ⟨bcap, ccap, hb, hc, c0, c1, c2, c3, c4, c5, c6⟩ := h.cells
  clear c0 c2 c3 c4 c5 c6 hb hc
  go_enter Try.func43, Try.ntmps43
  go_wp2
  go_ret
  exact ⟨rfl, rfl⟩

set_option maxRecDepth 100000 in
set_option maxHeartbeats 2000000 in
theorem erase_loop (p bb cb K : Nat) (s : FS) (w : World) (h : Fl 75 w p bb cb s) (hok : s.Ok) (hd : s.dead = false) (hk : K < s.n.length) :
    Calls Try.prog 18 #[.pointer (some ⟨p, 0, none⟩), .int .i64 K] w fun e w' => e = .returned (.int .i64 (toldI s.goes)) ∧ Fl 75 w' p bb cb { s.step with n := s.bump K, b := eraseUpto s.b (512 * K) 512 s.goes s.keep s.mask } ∧ Upd [p, bb, cb] w w' := by
  obtain ⟨bcap, ccap, hb, hc, c0, c1, c2, c3, c4, c5, c6⟩ := h.cells
  rw [hd] at c6
  have hfew := hok.few
  have hlen := Box.mk hok.len
  have HF := Box.mk h
  have hkI : (K : Int) < (s.n.length : Int) := by omega
  clear c0 c1 c2 c3 c4 c5 hc hb h hd
  go_enter Try.func18, Try.ntmps18
  go_wp2_with fail
  refine (blocks_any p bb cb s _ HF.out).mono ?_
  rintro e w1 ⟨rfl, rfl⟩
  go_wp2_with fail
  refine (step_any p bb cb s _ HF.out hok).mono ?_
  rintro e w1 ⟨rfl, hf1, hu1⟩
  have hkeep := hok.keep
  obtain ⟨bcap1, ccap1, hb1, hc1, d0, d1, d2, d3, d4, d5, d6⟩ := hf1.cells
  have hn1 : s.step.n.length = s.n.length := rfl
  simp only [hn1] at d1
  clear hn1
  obtain ⟨old, ho⟩ : ∃ old, s.n[K]? = some old := ⟨_, List.getElem?_eq_getElem hk⟩
  obtain ⟨x1, x2⟩ := hf1.count K old ho
  have hset := hf1.setn K hk (wrap64 (old + 1))
  have hset2 : Fl 75 (w1.setCell ⟨cb, K, none⟩ (.int .i64 (wrap64 (old + 1)))) p bb cb { s.step with n := s.bump K } := hset.to (by
    unfold FS.bump; rw [List.getD_eq_getElem?_getD, ho]; rfl)
  have HS := Box.mk hset2; clear hset hset2 ho
  have HU := Box.mk (Upd.setCell (S := [p, bb, cb]) (hu1.mono (by simp)) (p := ⟨cb, K, none⟩) (by simp) (.int .i64 (wrap64 (old + 1)))); clear hu1
  clear d0 d2 d3 d4 d5 d6 hb1 hc1 hf1 c6
  generalize hG : s.goes = G
  have HG := Box.mk hG; clear hG
  go_wp2_with fail
  go_loopw [35] (fun i wr => ∃ g : Nat, g ≤ 8 ∧ i = .int .i64 g ∧ Fl 75 wr p bb cb { s.step with n := s.bump K, b := eraseUpto s.b (512 * K) (64 * g) G s.keep s.mask } ∧ Upd [p, bb, cb] w wr) (fun i _ => 8 - (intOf i).toNat)
  case atStart => exact ⟨0, by omega, rfl, HS.out.to (by rw [Nat.mul_zero, eraseUpto_zero]; rfl), HU.out⟩
  case round =>
    clear HS HU x1 x2 d1
    obtain ⟨g, hg, rfl, hf, hu⟩ := hrel
    obtain ⟨bcapr, ccapr, hbr, hcr, d0, d1, d2, d3, d4, d5, d6⟩ := hf.cells
    have hkp : s.step.keep = s.keep := rfl
    have hmk : s.step.mask = s.mask := rfl
    simp only [hkp, hmk, eraseUpto_length] at d0 d4 d5
    clear hkp hmk d1 d2 d3 d6 hcr hbr
    have HU := Box.mk hu; clear hu
    have HF1 := Box.mk hf; clear hf
    by_cases hlt : g < 8
    · have hl0 := hlen.out
      by_cases hbrk : G = true ∧ s.keep < (g : Int)
      · obtain ⟨rfl, hc2⟩ := hbrk
        have hc1' : decide (s.keep ≤ (g : Int)) = true := by simp; omega
        have HC2 := Box.mk hc2
        clear hl0
        go_wp2_with fail
        refine (told_any true _).mono ?_
        rintro e w2 ⟨rfl, rfl⟩
        go_wp2
        go_ret
        exact ⟨by rw [HG.out]; rfl, HF1.out.to (by rw [HG.out, eraseUpto_rest _ _ _ _ _ HC2.out (by omega)]), HU.out⟩
      · have HBK := Box.mk hbrk; clear hbrk
        have H255 : Box (∀ old : UInt8, bits .or .u8 (old.toNat : Int) 255 = 255) := ⟨fun old => by have := or_u8 old 255; rw [or255] at this; exact this⟩
        have HL0 := Box.mk hl0; clear hl0
        by_cases hG1 : G = false
        case' pos =>
          subst hG1
          obtain ⟨B, HBe⟩ : ∃ B : Bool, Box (B = false) := ⟨_, ⟨rfl⟩⟩
          have HC : Box (∀ old : UInt8, bits .or .u8 (old.toNat : Int) 255 = ((eraseByte B s.keep s.mask g old).toNat : Int)) := ⟨fun old => by rw [H255.out, HBe.out]; simp [eraseByte]⟩
          have HF1 : Box (Fl 75 wr p bb cb { s.step with n := s.bump K, b := eraseUpto s.b (512 * K) (64 * g) B s.keep s.mask }) := ⟨HF1.out.to (by rw [HBe.out])⟩
          clear H255 HBK
          go_wp2_with fail
        case' neg =>
          have hG2 : G = true := by simpa using hG1
          subst hG2
          clear hG1
          by_cases hc1 : (g : Int) < s.keep
          case' pos =>
            have hc1' : decide (s.keep ≤ (g : Int)) = false := by simpa using hc1
            obtain ⟨B, HBe⟩ : ∃ B : Bool, Box (B = true) := ⟨_, ⟨rfl⟩⟩
            have HC : Box (∀ old : UInt8, bits .or .u8 (old.toNat : Int) 255 = ((eraseByte B s.keep s.mask g old).toNat : Int)) := ⟨fun old => by rw [H255.out, HBe.out]; simp [eraseByte, hc1]⟩
            have HF1 : Box (Fl 75 wr p bb cb { s.step with n := s.bump K, b := eraseUpto s.b (512 * K) (64 * g) B s.keep s.mask }) := ⟨HF1.out.to (by rw [HBe.out])⟩
            clear H255 HBK
            go_wp2_with fail
          case' neg =>
            have hc1' : decide (s.keep ≤ (g : Int)) = true := by simp; omega
            have hc2' : ¬ s.keep < (g : Int) := fun h => HBK.out ⟨rfl, h⟩
            obtain ⟨B, HBe⟩ : ∃ B : Bool, Box (B = true) := ⟨_, ⟨rfl⟩⟩
            have HF1 : Box (Fl 75 wr p bb cb { s.step with n := s.bump K, b := eraseUpto s.b (512 * K) (64 * g) B s.keep s.mask }) := ⟨HF1.out.to (by rw [HBe.out])⟩
            have HC : Box (∀ old : UInt8, bits .or .u8 (old.toNat : Int) (s.mask.toNat : Int) = ((eraseByte B s.keep s.mask g old).toNat : Int)) := ⟨fun old => by
              rw [or_u8, HBe.out]; simp only [eraseByte]; rw [if_neg (by simp; omega), if_pos (by omega)]⟩
            clear H255 HBK
            go_wp2_with fail
        all_goals
          obtain ⟨wo, rfl⟩ : ∃ wo : World, wo = wr := ⟨_, rfl⟩
          go_loopw [62] (fun i wr => ∃ j : Nat, j ≤ 64 ∧ i = .int .i64 j ∧ Fl 75 wr p bb cb { s.step with n := s.bump K, b := eraseUpto s.b (512 * K) (64 * g + j) B s.keep s.mask } ∧ Upd [p, bb, cb] w wr) (fun i _ => 64 - (intOf i).toNat)
          case atStart => exact ⟨0, by omega, rfl, HF1.out, HU.out⟩
          case round =>
            clear HF1 HU d0 d4 d5
            obtain ⟨j, hj, rfl, hf, hu⟩ := hrel
            obtain ⟨bcapq, ccapq, hbq, hcq, d0, d1, d2, d3, d4, d5, d6⟩ := hf.cells
            simp only [eraseUpto_length] at d0
            clear d1 d2 d3 d4 d5 d6 hcq hbq
            have HU := Box.mk hu; clear hu
            by_cases hjl : j < 64
            · obtain ⟨old, ho⟩ : ∃ old, s.b[512 * K + (64 * g + j)]? = some old := ⟨_, List.getElem?_eq_getElem (by have := HL0.out; omega)⟩
              have hob : (eraseUpto s.b (512 * K) (64 * g + j) B s.keep s.mask)[512 * K + (64 * g + j)]? = some old := by
                rw [eraseUpto_get _ _ _ _ _ _ _ (Nat.le_refl _)]; exact ho
              obtain ⟨e1, e2⟩ := hf.byte (512 * K + (64 * g + j)) old hob
              have hst := eraseUpto_step s.b (512 * K) (64 * g + j) B s.keep s.mask old ho
              rw [Nat.mul_add_div (by omega), Nat.div_eq_of_lt hjl, Nat.add_zero] at hst
              have HST := Box.mk hst; clear hst
              have HFR := Box.mk hf; clear hf
              have hset := fun (n : Int) hn => (HFR.out.setb (512 * K + (64 * g + j)) (by simp only [eraseUpto_length]; have := HL0.out; omega) (eraseByte B s.keep s.mask g old) n hn)
              have HSET := Box.mk hset; clear hset ho hob
              have q := HC.out old
              have hov := old.toNat_lt
              rw [show 512 * K + (64 * g + j) = K * 512 + g * 64 + j from by omega] at e1 e2
              have hin : (K : Int) * 512 + (g : Int) * 64 + (j : Int) < (s.b.length : Int) := by have := HL0.out; omega
              go_wp2
              refine ⟨⟨j + 1, by omega, by go_num, ?_, HU.out.setCell (by simp) _⟩, by simp [intOf]; omega⟩
              have h1 := HSET.out _ rfl
              rw [show 512 * K + (64 * g + j) = K * 512 + g * 64 + j from by omega] at h1
              refine h1.to ?_
              rw [show K * 512 + g * 64 + j = 512 * K + (64 * g + j) from by omega, HST.out, Nat.add_assoc]
            · have hj64 : j = 64 := by omega
              subst hj64
              have HFR := Box.mk hf; clear hf
              go_wp2
              refine ⟨⟨g + 1, by omega, by go_num, HFR.out.to ?_, HU.out⟩, by simp [intOf]; omega⟩
              rw [HBe.out, Nat.mul_add, Nat.mul_one]
    · have hg8 : g = 8 := by omega
      subst hg8
      go_wp2_with fail
      refine (told_any G _).mono ?_
      rintro e w2 ⟨rfl, rfl⟩
      go_wp2
      go_ret
      exact ⟨by rw [HG.out]; rfl, HF1.out.to (by rw [HG.out]), HU.out⟩

theorem FS.erase_ok {s : FS} (h : s.Ok) (block : Int) : (s.erase block).1.Ok := by
  unfold FS.erase
  (repeat' split) <;> first | exact h | exact ⟨h.step.armed, h.step.keep, by simp only [eraseUpto_length, FS.bump, List.length_set]; exact h.len, by simp only [FS.bump, List.length_set]; exact h.few⟩

set_option maxHeartbeats 1000000 in
/-- (*Flash).Erase. -/
theorem erase_any (p bb cb : Nat) (s : FS) (block : Int) (w : World) (h : Fl 75 w p bb cb s) (hok : s.Ok) :
    Calls Try.prog 18 #[.pointer (some ⟨p, 0, none⟩), .int .i64 block] w fun e w' => e = .returned (.int .i64 (s.erase block).2) ∧ Fl 75 w' p bb cb (s.erase block).1 ∧ Upd [p, bb, cb] w w' := by
  have HF := Box.mk h
  obtain ⟨bcap, ccap, hb, hc, c0, c1, c2, c3, c4, c5, c6⟩ := h.cells
  clear c0 c1 c2 c3 c4 c5 hb hc h
  by_cases hd : s.dead = true
  · have E : Box (s.erase block = (s, 2)) := ⟨by unfold FS.erase; rw [if_pos hd]⟩
    rw [hd] at c6; clear hd
    rw [E.out]
    go_enter Try.func18, Try.ntmps18
    go_wp2
    go_ret
    exact ⟨rfl, HF.out, Upd.refl _ _⟩
  · have hd' : s.dead = false := by simpa using hd
    by_cases hb : 0 ≤ block ∧ block < s.n.length
    · obtain ⟨K, rfl⟩ := Int.eq_ofNat_of_zero_le hb.1
      have E : Box (s.erase K = ({ s.step with n := s.bump K, b := eraseUpto s.b (512 * K) 512 s.goes s.keep s.mask }, toldI s.goes)) := ⟨by
        unfold FS.erase; rw [if_neg hd, if_neg (by unfold blkB; simpa using hb)]; rfl⟩
      rw [E.out]
      exact erase_loop p bb cb K s w HF.out hok hd' (by omega)
    · have E : Box (s.erase block = (s, 111)) := ⟨by
        unfold FS.erase; rw [if_neg hd, if_pos (by unfold blkB; simpa using hb)]⟩
      rw [E.out]
      rw [hd'] at c6; clear hd hd'
      by_cases h0 : block < 0
      · have h0' : decide (block < 0) = true := by simpa using h0
        clear hb
        go_enter Try.func18, Try.ntmps18
        go_wp2
        go_ret
        exact ⟨rfl, HF.out, Upd.refl _ _⟩
      · have h0' : decide (block < 0) = false := by simpa using h0
        have h1 : ((s.n.length : Nat) : Int) ≤ block := by omega
        clear hb
        go_enter Try.func18, Try.ntmps18
        go_wp2_with fail
        refine (blocks_any p bb cb s _ HF.out).mono ?_
        rintro e w1 ⟨rfl, rfl⟩
        go_wp2
        go_ret
        exact ⟨rfl, HF.out, Upd.refl _ _⟩
end Go.Proofs.Ytaeomiedmjedgaa
