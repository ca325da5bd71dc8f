/- The flash: Erase. The flash: what tells its state, and what turns the power. The flash: one is made. The flash: bytes.Repeat at one byte. The flash: New; fit. The flash: the calls whose answers the document fixes. -/
import Derived.Test.YtjednaendedpdaaGreatM01
import Derived.Lib.ConvBytes
import Derived.Lib.MakeNoZero
import Derived.Laws.CopyOwn
import Derived.Laws.Externs
import Derived.Shelf.Bits.Mul64
namespace Go.Proofs.YtjednaendedpdaaGreat
set_option maxRecDepth 100000
set_option linter.unusedVariables false
open Go Go.RowKit

/-- What a byte of page pg becomes in an Erase. -/
def eraseByte (gone : Bool) (keep : Int) (mask : UInt8) (pg : Nat) (old : UInt8) : UInt8 :=
  if gone = false ∨ (pg : Int) < keep then 255 else if (pg : Int) = keep then old ||| mask else old
def eraseUpto (b : List UInt8) (base m : Nat) (gone : Bool) (keep : Int) (mask : UInt8) : List UInt8 :=
  b.mapIdx fun k old => if base ≤ k ∧ k < base + m then eraseByte gone keep mask ((k - base) / 64) old else old
theorem eraseUpto_length (b : List UInt8) (base m : Nat) (gone : Bool) (keep : Int) (mask : UInt8) : (eraseUpto b base m gone keep mask).length = b.length := by simp [eraseUpto]
theorem eraseUpto_zero (b : List UInt8) (base : Nat) (gone : Bool) (keep : Int) (mask : UInt8) : eraseUpto b base 0 gone keep mask = b := by
  apply List.ext_getElem?; intro k
  simp only [eraseUpto, List.getElem?_mapIdx]
  cases b[k]? with
  | none => rfl
  | some o => simp only [Option.map_some]; rw [if_neg (by omega)]
theorem eraseUpto_get (b : List UInt8) (base m : Nat) (gone : Bool) (keep : Int) (mask : UInt8) (k : Nat) (h : base + m ≤ k) : (eraseUpto b base m gone keep mask)[k]? = b[k]? := by
  simp only [eraseUpto, List.getElem?_mapIdx]
  cases b[k]? with
  | none => rfl
  | some o => simp only [Option.map_some]; rw [if_neg (by omega)]
theorem eraseUpto_step (b : List UInt8) (base m : Nat) (gone : Bool) (keep : Int) (mask : UInt8) (old : UInt8) (ho : b[base + m]? = some old) :
    (eraseUpto b base m gone keep mask).set (base + m) (eraseByte gone keep mask (m / 64) old) = eraseUpto b base (m + 1) gone keep mask := by
  have hbl : base + m < b.length := (List.getElem?_eq_some_iff.1 ho).1
  apply List.ext_getElem?; intro k
  rw [List.getElem?_set]
  split
  · rename_i h; subst h
    simp only [eraseUpto_length, hbl, if_true]
    simp only [eraseUpto, List.getElem?_mapIdx, ho, Option.map_some]
    rw [if_pos (by omega), show base + m - base = m from by omega]
  · rename_i h
    simp only [eraseUpto, List.getElem?_mapIdx]
    congr 1; funext old
    by_cases hA : base ≤ k ∧ k < base + m
    · rw [if_pos hA, if_pos (by omega)]
    · rw [if_neg hA, if_neg (by omega)]
theorem eraseUpto_rest (b : List UInt8) (base pg : Nat) (keep : Int) (mask : UInt8) (hp : keep < pg) (hp8 : pg ≤ 8) :
    eraseUpto b base (64 * pg) true keep mask = eraseUpto b base 512 true keep mask := by
  apply List.ext_getElem?; intro k
  simp only [eraseUpto, List.getElem?_mapIdx]
  congr 1; funext old
  by_cases hA : base ≤ k ∧ k < base + 64 * pg
  · rw [if_pos hA, if_pos (by omega)]
  · rw [if_neg hA]
    split
    · rename_i hB
      have hq : pg ≤ (k - base) / 64 := by omega
      simp only [eraseByte]; rw [if_neg (by simp; omega), if_neg (by omega)]
    · rfl
theorem or255 (x : UInt8) : x ||| 255 = 255 := by
  apply UInt8.toNat_inj.1
  have hx := x.toNat_lt
  rw [UInt8.toNat_or, show (255 : UInt8).toNat = 255 from rfl]
  generalize x.toNat = n at hx
  apply Nat.eq_of_testBit_eq
  intro i
  rw [Nat.testBit_or, show (255 : Nat) = 2 ^ 8 - 1 from rfl, Nat.testBit_two_pow_sub_one]
  by_cases hi : i < 8
  · simp [hi]
  · simp only [hi, decide_false, Bool.or_false]
    exact Nat.testBit_lt_two_pow (Nat.lt_of_lt_of_le hx (Nat.pow_le_pow_right (by omega) (by omega)))

/-- A count set. -/
theorem Fl.setn {t : TypeId} {w : World} {p bb cb : Nat} {s : FS} (h : Fl t w p bb cb s) (k : Nat) (hk : k < s.n.length) (v : Int) :
    Fl t (w.setCell ⟨cb, k, none⟩ (.int .i64 v)) p bb cb { s with n := s.n.set k v } := by
  obtain ⟨a, b, e1, e2, g1⟩ := h.st
  obtain ⟨x, fr, g2, hfr⟩ := h.by_
  obtain ⟨y, g3⟩ := h.cn
  refine ⟨⟨a, b, e1, by simpa using e2, by rw [heap_setCell_other _ _ _ _ h.d2]; simpa using g1⟩, ⟨x, fr, by rw [heap_setCell_other _ _ _ _ h.d3]; exact g2, hfr⟩, ⟨y, ?_⟩, h.d1, h.d2, h.d3⟩
  rw [heap_setCell_same _ _ _ _ _ _ g3]
  congr 2
  rw [List.setIfInBounds_toArray, List.set_append_left _ _ (by simpa using hk), show Value.int .i64 v = nval v from rfl, ← List.map_set]
theorem Fl.count {t : TypeId} {w : World} {p bb cb : Nat} {s : FS} (h : Fl t w p bb cb s) (k : Nat) (u : Int) (hk : s.n[k]? = some u) : w.cell? ⟨cb, k, none⟩ = some (.int .i64 u) ∧ w.frozen? ⟨cb, k, none⟩ = false := by
  obtain ⟨x, g2⟩ := h.cn
  refine ⟨?_, frozen_of_row _ _ _ _ _ g2⟩
  rw [cell_of_row _ _ _ _ _ _ g2, List.getElem?_toArray, List.getElem?_append_left (by have := (List.getElem?_eq_some_iff.1 hk).1; simpa using this), List.getElem?_map, hk]; rfl

/-- Erase: the state behind it, and the error's number. -/
def FS.bump (s : FS) (k : Nat) : List Int := s.n.set k (wrap64 (s.n.getD k 0 + 1))
@[irreducible] def blkB (l : Nat) (block : Int) : Bool := decide (0 ≤ block ∧ block < l)
def FS.erase (s : FS) (block : Int) : FS × Int :=
  if s.dead then (s, 2)
  else if blkB s.n.length block = false then (s, 111)
  else ({ s.step with n := s.bump block.toNat, b := eraseUpto s.b (512 * block.toNat) 512 s.goes s.keep s.mask }, toldI s.goes)

theorem blocks_any (p bb cb : Nat) (s : FS) (w : World) (h : Fl 89 w p bb cb s) :
    Calls Tryz.prog 57 #[.pointer (some ⟨p, 0, none⟩)] w fun e w' => e = .returned (.int .i64 s.n.length) ∧ w = w' := by
  obtain ⟨bcap, ccap, hb, hc, c0, c1, c2, c3, c4, c5, c6⟩ := h.cells
  clear c0 c2 c3 c4 c5 c6 hb hc
  go_enter Tryz.func57, Tryz.ntmps57
  go_wp2
  go_ret
  exact ⟨rfl, rfl⟩

set_option maxRecDepth 100000 in
set_option maxHeartbeats 2000000 in
theorem erase_loop (p bb cb K : Nat) (s : FS) (w : World) (h : Fl 89 w p bb cb s) (hok : s.Ok) (hd : s.dead = false) (hk : K < s.n.length) :
    Calls Tryz.prog 111 #[.pointer (some ⟨p, 0, none⟩), .int .i64 K] w fun e w' => e = .returned (.int .i64 (toldI s.goes)) ∧ Fl 89 w' p bb cb { s.step with n := s.bump K, b := eraseUpto s.b (512 * K) 512 s.goes s.keep s.mask } ∧ Upd [p, bb, cb] w w' := by
  obtain ⟨bcap, ccap, hb, hc, c0, c1, c2, c3, c4, c5, c6⟩ := h.cells
  rw [hd] at c6
  have hfew := hok.few
  have hlen := Box.mk hok.len
  have HF := Box.mk h
  have hkI : (K : Int) < (s.n.length : Int) := by omega
  clear c0 c1 c2 c3 c4 c5 hc hb h hd
  go_enter Tryz.func111, Tryz.ntmps111
  go_wp2_with fail
  refine (blocks_any p bb cb s _ HF.out).mono ?_
  rintro e w1 ⟨rfl, rfl⟩
  go_wp2_with fail
  refine (step_any p bb cb s _ HF.out hok).mono ?_
  rintro e w1 ⟨rfl, hf1, hu1⟩
  have hkeep := hok.keep
  obtain ⟨bcap1, ccap1, hb1, hc1, d0, d1, d2, d3, d4, d5, d6⟩ := hf1.cells
  have hn1 : s.step.n.length = s.n.length := rfl
  simp only [hn1] at d1
  clear hn1
  obtain ⟨old, ho⟩ : ∃ old, s.n[K]? = some old := ⟨_, List.getElem?_eq_getElem hk⟩
  obtain ⟨x1, x2⟩ := hf1.count K old ho
  have hset := hf1.setn K hk (wrap64 (old + 1))
  have hset2 : Fl 89 (w1.setCell ⟨cb, K, none⟩ (.int .i64 (wrap64 (old + 1)))) p bb cb { s.step with n := s.bump K } := hset.to (by
    unfold FS.bump; rw [List.getD_eq_getElem?_getD, ho]; rfl)
  have HS := Box.mk hset2; clear hset hset2 ho
  have HU := Box.mk (Upd.setCell (S := [p, bb, cb]) (hu1.mono (by simp)) (p := ⟨cb, K, none⟩) (by simp) (.int .i64 (wrap64 (old + 1)))); clear hu1
  clear d0 d2 d3 d4 d5 d6 hb1 hc1 hf1 c6
  generalize hG : s.goes = G
  have HG := Box.mk hG; clear hG
  go_wp2_with fail
  go_loopw [35] (fun i wr => ∃ g : Nat, g ≤ 8 ∧ i = .int .i64 g ∧ Fl 89 wr p bb cb { s.step with n := s.bump K, b := eraseUpto s.b (512 * K) (64 * g) G s.keep s.mask } ∧ Upd [p, bb, cb] w wr) (fun i _ => 8 - (intOf i).toNat)
  case atStart => exact ⟨0, by omega, rfl, HS.out.to (by rw [Nat.mul_zero, eraseUpto_zero]; rfl), HU.out⟩
  case round =>
    clear HS HU x1 x2 d1
    obtain ⟨g, hg, rfl, hf, hu⟩ := hrel
    obtain ⟨bcapr, ccapr, hbr, hcr, d0, d1, d2, d3, d4, d5, d6⟩ := hf.cells
    have hkp : s.step.keep = s.keep := rfl
    have hmk : s.step.mask = s.mask := rfl
    simp only [hkp, hmk, eraseUpto_length] at d0 d4 d5
    clear hkp hmk d1 d2 d3 d6 hcr hbr
    have HU := Box.mk hu; clear hu
    have HF1 := Box.mk hf; clear hf
    by_cases hlt : g < 8
    · have hl0 := hlen.out
      by_cases hbrk : G = true ∧ s.keep < (g : Int)
      · obtain ⟨rfl, hc2⟩ := hbrk
        have hc1' : decide (s.keep ≤ (g : Int)) = true := by simp; omega
        have HC2 := Box.mk hc2
        clear hl0
        go_wp2_with fail
        refine (told_any true _).mono ?_
        rintro e w2 ⟨rfl, rfl⟩
        go_wp2
        go_ret
        exact ⟨by rw [HG.out]; rfl, HF1.out.to (by rw [HG.out, eraseUpto_rest _ _ _ _ _ HC2.out (by omega)]), HU.out⟩
      · have HBK := Box.mk hbrk; clear hbrk
        have H255 : Box (∀ old : UInt8, bits .or .u8 (old.toNat : Int) 255 = 255) := ⟨fun old => by have := or_u8 old 255; rw [or255] at this; exact this⟩
        have HL0 := Box.mk hl0; clear hl0
        by_cases hG1 : G = false
        case' pos =>
          subst hG1
          obtain ⟨B, HBe⟩ : ∃ B : Bool, Box (B = false) := ⟨_, ⟨rfl⟩⟩
          have HC : Box (∀ old : UInt8, bits .or .u8 (old.toNat : Int) 255 = ((eraseByte B s.keep s.mask g old).toNat : Int)) := ⟨fun old => by rw [H255.out, HBe.out]; simp [eraseByte]⟩
          have HF1 : Box (Fl 89 wr p bb cb { s.step with n := s.bump K, b := eraseUpto s.b (512 * K) (64 * g) B s.keep s.mask }) := ⟨HF1.out.to (by rw [HBe.out])⟩
          clear H255 HBK
          go_wp2_with fail
        case' neg =>
          have hG2 : G = true := by simpa using hG1
          subst hG2
          clear hG1
          by_cases hc1 : (g : Int) < s.keep
          case' pos =>
            have hc1' : decide (s.keep ≤ (g : Int)) = false := by simpa using hc1
            obtain ⟨B, HBe⟩ : ∃ B : Bool, Box (B = true) := ⟨_, ⟨rfl⟩⟩
            have HC : Box (∀ old : UInt8, bits .or .u8 (old.toNat : Int) 255 = ((eraseByte B s.keep s.mask g old).toNat : Int)) := ⟨fun old => by rw [H255.out, HBe.out]; simp [eraseByte, hc1]⟩
            have HF1 : Box (Fl 89 wr p bb cb { s.step with n := s.bump K, b := eraseUpto s.b (512 * K) (64 * g) B s.keep s.mask }) := ⟨HF1.out.to (by rw [HBe.out])⟩
            clear H255 HBK
            go_wp2_with fail
          case' neg =>
            have hc1' : decide (s.keep ≤ (g : Int)) = true := by simp; omega
            have hc2' : ¬ s.keep < (g : Int) := fun h => HBK.out ⟨rfl, h⟩
            obtain ⟨B, HBe⟩ : ∃ B : Bool, Box (B = true) := ⟨_, ⟨rfl⟩⟩
            have HF1 : Box (Fl 89 wr p bb cb { s.step with n := s.bump K, b := eraseUpto s.b (512 * K) (64 * g) B s.keep s.mask }) := ⟨HF1.out.to (by rw [HBe.out])⟩
            have HC : Box (∀ old : UInt8, bits .or .u8 (old.toNat : Int) (s.mask.toNat : Int) = ((eraseByte B s.keep s.mask g old).toNat : Int)) := ⟨fun old => by
              rw [or_u8, HBe.out]; simp only [eraseByte]; rw [if_neg (by simp; omega), if_pos (by omega)]⟩
            clear H255 HBK
            go_wp2_with fail
        all_goals
          obtain ⟨wo, rfl⟩ : ∃ wo : World, wo = wr := ⟨_, rfl⟩
          go_loopw [62] (fun i wr => ∃ j : Nat, j ≤ 64 ∧ i = .int .i64 j ∧ Fl 89 wr p bb cb { s.step with n := s.bump K, b := eraseUpto s.b (512 * K) (64 * g + j) B s.keep s.mask } ∧ Upd [p, bb, cb] w wr) (fun i _ => 64 - (intOf i).toNat)
          case atStart => exact ⟨0, by omega, rfl, HF1.out, HU.out⟩
          case round =>
            clear HF1 HU d0 d4 d5
            obtain ⟨j, hj, rfl, hf, hu⟩ := hrel
            obtain ⟨bcapq, ccapq, hbq, hcq, d0, d1, d2, d3, d4, d5, d6⟩ := hf.cells
            simp only [eraseUpto_length] at d0
            clear d1 d2 d3 d4 d5 d6 hcq hbq
            have HU := Box.mk hu; clear hu
            by_cases hjl : j < 64
            · obtain ⟨old, ho⟩ : ∃ old, s.b[512 * K + (64 * g + j)]? = some old := ⟨_, List.getElem?_eq_getElem (by have := HL0.out; omega)⟩
              have hob : (eraseUpto s.b (512 * K) (64 * g + j) B s.keep s.mask)[512 * K + (64 * g + j)]? = some old := by
                rw [eraseUpto_get _ _ _ _ _ _ _ (Nat.le_refl _)]; exact ho
              obtain ⟨e1, e2⟩ := hf.byte (512 * K + (64 * g + j)) old hob
              have hst := eraseUpto_step s.b (512 * K) (64 * g + j) B s.keep s.mask old ho
              rw [Nat.mul_add_div (by omega), Nat.div_eq_of_lt hjl, Nat.add_zero] at hst
              have HST := Box.mk hst; clear hst
              have HFR := Box.mk hf; clear hf
              have hset := fun (n : Int) hn => (HFR.out.setb (512 * K + (64 * g + j)) (by simp only [eraseUpto_length]; have := HL0.out; omega) (eraseByte B s.keep s.mask g old) n hn)
              have HSET := Box.mk hset; clear hset ho hob
              have q := HC.out old
              have hov := old.toNat_lt
              rw [show 512 * K + (64 * g + j) = K * 512 + g * 64 + j from by omega] at e1 e2
              have hin : (K : Int) * 512 + (g : Int) * 64 + (j : Int) < (s.b.length : Int) := by have := HL0.out; omega
              go_wp2
              refine ⟨⟨j + 1, by omega, by go_num, ?_, HU.out.setCell (by simp) _⟩, by simp [intOf]; omega⟩
              have h1 := HSET.out _ rfl
              rw [show 512 * K + (64 * g + j) = K * 512 + g * 64 + j from by omega] at h1
              refine h1.to ?_
              rw [show K * 512 + g * 64 + j = 512 * K + (64 * g + j) from by omega, HST.out, Nat.add_assoc]
            · have hj64 : j = 64 := by omega
              subst hj64
              have HFR := Box.mk hf; clear hf
              go_wp2
              refine ⟨⟨g + 1, by omega, by go_num, HFR.out.to ?_, HU.out⟩, by simp [intOf]; omega⟩
              rw [HBe.out, Nat.mul_add, Nat.mul_one]
    · have hg8 : g = 8 := by omega
      subst hg8
      go_wp2_with fail
      refine (told_any G _).mono ?_
      rintro e w2 ⟨rfl, rfl⟩
      go_wp2
      go_ret
      exact ⟨by rw [HG.out]; rfl, HF1.out.to (by rw [HG.out]), HU.out⟩

theorem FS.erase_ok {s : FS} (h : s.Ok) (block : Int) : (s.erase block).1.Ok := by
  unfold FS.erase
  (repeat' split) <;> first | exact h | exact ⟨h.step.armed, h.step.keep, by simp only [eraseUpto_length, FS.bump, List.length_set]; exact h.len, by simp only [FS.bump, List.length_set]; exact h.few⟩

set_option maxHeartbeats 1000000 in
/-- (*Flash).Erase. -/
theorem erase_any (p bb cb : Nat) (s : FS) (block : Int) (w : World) (h : Fl 89 w p bb cb s) (hok : s.Ok) :
    Calls Tryz.prog 111 #[.pointer (some ⟨p, 0, none⟩), .int .i64 block] w fun e w' => e = .returned (.int .i64 (s.erase block).2) ∧ Fl 89 w' p bb cb (s.erase block).1 ∧ Upd [p, bb, cb] w w' := by
  have HF := Box.mk h
  obtain ⟨bcap, ccap, hb, hc, c0, c1, c2, c3, c4, c5, c6⟩ := h.cells
  clear c0 c1 c2 c3 c4 c5 hb hc h
  by_cases hd : s.dead = true
  · have E : Box (s.erase block = (s, 2)) := ⟨by unfold FS.erase; rw [if_pos hd]⟩
    rw [hd] at c6; clear hd
    rw [E.out]
    go_enter Tryz.func111, Tryz.ntmps111
    go_wp2
    go_ret
    exact ⟨rfl, HF.out, Upd.refl _ _⟩
  · have hd' : s.dead = false := by simpa using hd
    by_cases hb : 0 ≤ block ∧ block < s.n.length
    · obtain ⟨K, rfl⟩ := Int.eq_ofNat_of_zero_le hb.1
      have E : Box (s.erase K = ({ s.step with n := s.bump K, b := eraseUpto s.b (512 * K) 512 s.goes s.keep s.mask }, toldI s.goes)) := ⟨by
        unfold FS.erase; rw [if_neg hd, if_neg (by unfold blkB; simpa using hb)]; rfl⟩
      rw [E.out]
      exact erase_loop p bb cb K s w HF.out hok hd' (by omega)
    · have E : Box (s.erase block = (s, 111)) := ⟨by
        unfold FS.erase; rw [if_neg hd, if_pos (by unfold blkB; simpa using hb)]⟩
      rw [E.out]
      rw [hd'] at c6; clear hd hd'
      by_cases h0 : block < 0
      · have h0' : decide (block < 0) = true := by simpa using h0
        clear hb
        go_enter Tryz.func111, Tryz.ntmps111
        go_wp2
        go_ret
        exact ⟨rfl, HF.out, Upd.refl _ _⟩
      · have h0' : decide (block < 0) = false := by simpa using h0
        have h1 : ((s.n.length : Nat) : Int) ≤ block := by omega
        clear hb
        go_enter Tryz.func111, Tryz.ntmps111
        go_wp2_with fail
        refine (blocks_any p bb cb s _ HF.out).mono ?_
        rintro e w1 ⟨rfl, rfl⟩
        go_wp2
        go_ret
        exact ⟨rfl, HF.out, Upd.refl _ _⟩
end Go.Proofs.YtjednaendedpdaaGreat
namespace Go.Proofs.YtjednaendedpdaaGreat
set_option maxRecDepth 100000
set_option linter.unusedVariables false
open Go Go.RowKit

/-- string(b) of bytes that lie in a row from off on. -/
theorem run_bytes_at (P : Program) (w : World) (b off cap : Nat) (l : List UInt8) (src dst e : TypeId) (n : Nat) (hn : l.length = n)
    (hs : P.underlying src = some (.slice e)) (he : P.underlying e = some (.int .u8)) (hd : P.underlying dst = some .string)
    (hg : ∀ j u, l[j]? = some u → w.cell? ⟨b, off + j, none⟩ = some (.int .u8 (u.toNat : Int))) :
    (convert src dst (.slice (some ⟨b, off, none⟩) n cap)).run P w = .ok (.string ⟨l.toArray⟩) w := by
  subst hn
  rw [run_convert_bytes_string w src dst e _ _ _ hs he hd]
  have h := run_loadCells_list (P := P) (w := w) ⟨b, off, none⟩ ((l.map fun u => (u.toNat : Int)).map (Value.int .u8)) (by
    intro j v hj
    have : (⟨b, off, none⟩ : Addr).add j = ⟨b, off + j, none⟩ := by unfold Addr.add; split <;> simp_all
    rw [this]
    rw [List.getElem?_map, List.getElem?_map] at hj
    cases hl : l[j]? with
    | none => rw [hl] at hj; simp at hj
    | some u => rw [hl] at hj; simp at hj; subst hj; exact hg j u hl)
  rw [List.length_map, List.length_map] at h
  rw [run_bytesToString w _ _ _ _ h]
  have : ∀ (l : List UInt8) (acc : ByteArray), (l.map fun u => (u.toNat : Int)).foldl (fun r n => r.push (UInt8.ofNat n.toNat)) acc = ⟨(acc.data.toList ++ l).toArray⟩ := by
    intro l
    induction l with
    | nil => intro acc; simp
    | cons c l ih => intro acc; simp only [List.map_cons, List.foldl_cons]; rw [ih]; simp [ByteArray.push]
  rw [this]
  rfl

theorem steps_any (p bb cb : Nat) (s : FS) (w : World) (h : Fl 89 w p bb cb s) :
    Calls Tryz.prog 12 #[.pointer (some ⟨p, 0, none⟩)] w fun e w' => e = .returned (.int .i64 s.steps) ∧ w = w' := by
  obtain ⟨bcap, ccap, hb, hc, c0, c1, c2, c3, c4, c5, c6⟩ := h.cells
  clear c0 c1 c3 c4 c5 c6 hb hc
  go_enter Tryz.func12, Tryz.ntmps12
  go_wp2
  go_ret
  exact ⟨rfl, rfl⟩
theorem dead_any (p bb cb : Nat) (s : FS) (w : World) (h : Fl 89 w p bb cb s) :
    Calls Tryz.prog 20 #[.pointer (some ⟨p, 0, none⟩)] w fun e w' => e = .returned (.bool s.dead) ∧ w = w' := by
  obtain ⟨bcap, ccap, hb, hc, c0, c1, c2, c3, c4, c5, c6⟩ := h.cells
  clear c0 c1 c2 c3 c4 c5 hb hc
  go_enter Tryz.func20, Tryz.ntmps20
  go_wp2
  go_ret
  exact ⟨rfl, rfl⟩
/-- How often a block was erased. -/
@[irreducible] def FS.count (s : FS) (block : Int) : Int := if 0 ≤ block then s.n.getD block.toNat 0 else 0
/-- The power goes; it comes back. -/
def FS.off (s : FS) : FS := { s with dead := true, armed := 0 }
def FS.back (s : FS) : FS := { s with dead := false, armed := 0 }
set_option maxHeartbeats 400000 in
theorem crash_any (p bb cb : Nat) (s : FS) (w : World) (h : Fl 89 w p bb cb s) :
    Calls Tryz.prog 19 #[.pointer (some ⟨p, 0, none⟩)] w fun e w' => e = .returned (.int .i64 (toldI s.dead)) ∧ Fl 89 w' p bb cb (if s.dead then s else s.off) ∧ Upd [p] w w' := by
  obtain ⟨bcap, ccap, hb, hc, c0, c1, c2, c3, c4, c5, c6⟩ := h.cells
  have f3 := h.free 3; have f6 := h.free 6
  have HF := Box.mk h
  clear c0 c1 c2 c4 c5 hb hc h
  have t1 : Box (toldI true = 2) := ⟨by unfold toldI; rfl⟩
  have t2 : Box (toldI false = 0) := ⟨by unfold toldI; rfl⟩
  by_cases hd : s.dead = true
  · have HD := Box.mk hd
    rw [hd] at c6; clear hd
    rw [HD.out]
    go_enter Tryz.func19, Tryz.ntmps19
    go_wp2
    go_ret
    exact ⟨by rw [t1.out]; rfl, HF.out, Upd.refl _ _⟩
  · have hd' : s.dead = false := by simpa using hd
    have HD := Box.mk hd'
    rw [hd'] at c6; clear hd hd'
    rw [HD.out]
    go_enter Tryz.func19, Tryz.ntmps19
    go_wp2
    go_ret
    exact ⟨by rw [t2.out]; rfl, (HF.out.set6 true).set3 0, ((Upd.refl _ _).setCell (by simp) _).setCell (by simp) _⟩
set_option maxHeartbeats 400000 in
theorem revive_any (p bb cb : Nat) (s : FS) (w : World) (h : Fl 89 w p bb cb s) :
    Calls Tryz.prog 21 #[.pointer (some ⟨p, 0, none⟩)] w fun e w' => e = .returned (.tuple #[]) ∧ Fl 89 w' p bb cb s.back ∧ Upd [p] w w' := by
  obtain ⟨bcap, ccap, hb, hc, c0, c1, c2, c3, c4, c5, c6⟩ := h.cells
  have f3 := h.free 3; have f6 := h.free 6
  have HF := Box.mk h
  clear c0 c1 c2 c4 c5 hb hc h
  go_enter Tryz.func21, Tryz.ntmps21
  go_wp2
  go_end0
  exact ⟨rfl, (HF.out.set6 false).set3 0, ((Upd.refl _ _).setCell (by simp) _).setCell (by simp) _⟩
/-- The next failure is laid. -/
def FS.arm (s : FS) (n keep : Int) (mask : UInt8) : FS × Int :=
  if s.dead then (s, 2) else if n < 0 then (s, 1) else ({ s with armed := n, keep := max 0 keep, mask := mask }, 0)
theorem FS.arm_ok {s : FS} (h : s.Ok) (n keep : Int) (mask : UInt8) (hn : n ≤ 9223372036854775807) (hk : keep ≤ 9223372036854775807) : (s.arm n keep mask).1.Ok := by
  unfold FS.arm
  (repeat' split) <;> first | exact h | exact ⟨⟨by simp only; omega, hn⟩, ⟨by simp only; omega, by simp only; omega⟩, h.len, h.few⟩
set_option maxHeartbeats 1000000 in
theorem arm_any (p bb cb : Nat) (s : FS) (n keep : Int) (mask : UInt8) (w : World) (h : Fl 89 w p bb cb s) (hk : -9223372036854775808 ≤ keep ∧ keep ≤ 9223372036854775807) :
    Calls Tryz.prog 18 #[.pointer (some ⟨p, 0, none⟩), .int .i64 n, .int .i64 keep, .int .u8 (mask.toNat : Int)] w fun e w' => e = .returned (.int .i64 (s.arm n keep mask).2) ∧ Fl 89 w' p bb cb (s.arm n keep mask).1 ∧ Upd [p] w w' := by
  obtain ⟨bcap, ccap, hb, hc, c0, c1, c2, c3, c4, c5, c6⟩ := h.cells
  have f3 := h.free 3; have f4 := h.free 4; have f5 := h.free 5
  have HF := Box.mk h
  clear c0 c1 c2 hb hc h
  by_cases hd : s.dead = true
  · have E : Box (s.arm n keep mask = (s, 2)) := ⟨by unfold FS.arm; rw [if_pos hd]⟩
    rw [hd] at c6; clear hd
    rw [E.out]
    go_enter Tryz.func18, Tryz.ntmps18
    go_wp2
    go_ret
    exact ⟨rfl, HF.out, Upd.refl _ _⟩
  · have hd' : s.dead = false := by simpa using hd
    by_cases hn : n < 0
    · have E : Box (s.arm n keep mask = (s, 1)) := ⟨by unfold FS.arm; rw [if_neg hd, if_pos hn]⟩
      rw [hd'] at c6; clear hd hd'
      rw [E.out]
      go_enter Tryz.func18, Tryz.ntmps18
      go_wp2
      go_ret
      exact ⟨rfl, HF.out, Upd.refl _ _⟩
    · have E : Box (s.arm n keep mask = ({ s with armed := n, keep := max 0 keep, mask := mask }, 0)) := ⟨by unfold FS.arm; rw [if_neg hd, if_neg hn]⟩
      rw [hd'] at c6; clear hd hd'
      rw [E.out]
      go_enter Tryz.func18, Tryz.ntmps18
      go_wp2
      · go_ret
        have hm : max 0 keep = keep := by omega
        exact ⟨rfl, (((HF.out.set3 n).set4 keep).set5 mask).to (by rw [hm]), (((Upd.refl _ _).setCell (by simp) _).setCell (by simp) _).setCell (by simp) _⟩
      · go_ret
        have hm : max 0 keep = 0 := by omega
        exact ⟨rfl, (((HF.out.set3 n).set4 0).set5 mask).to (by rw [hm]), (((Upd.refl _ _).setCell (by simp) _).setCell (by simp) _).setCell (by simp) _⟩
set_option maxHeartbeats 1000000 in
theorem read_any (p bb cb : Nat) (s : FS) (at_ n : Int) (w : World) (h : Fl 89 w p bb cb s) (hok : s.Ok) (ba : -9223372036854775808 ≤ at_ ∧ at_ ≤ 9223372036854775807) (bn : -9223372036854775808 ≤ n ∧ n ≤ 9223372036854775807) :
    Calls Tryz.prog 60 #[.pointer (some ⟨p, 0, none⟩), .int .i64 at_, .int .i64 n] w fun e w' => e = .returned (if s.dead then .tuple #[.string ⟨#[]⟩, .int .i64 2] else if onB s.b.length at_ n then .tuple #[.string ⟨((s.b.drop at_.toNat).take n.toNat).toArray⟩, .int .i64 0] else .tuple #[.string ⟨#[]⟩, .int .i64 111]) ∧ w = w' := by
  have HF := Box.mk h
  obtain ⟨bcap, ccap, hb, hc, c0, c1, c2, c3, c4, c5, c6⟩ := h.cells
  have hby := Box.mk (fun j u hu => (h.byte j u hu).1)
  clear c1 c2 c3 c4 c5 hc h
  by_cases hd : s.dead = true
  · rw [if_pos hd]
    rw [hd] at c6; clear hd
    go_enter Tryz.func60, Tryz.ntmps60
    go_wp2
    go_ret2
    exact ⟨rfl, rfl⟩
  · rw [if_neg hd]
    have hd' : s.dead = false := by simpa using hd
    rw [hd'] at c6; clear hd hd'
    by_cases ho : onB s.b.length at_ n = true
    · rw [if_pos ho]
      have hon : 0 ≤ at_ ∧ 0 ≤ n ∧ at_ + n ≤ s.b.length := by unfold onB at ho; simpa using ho
      obtain ⟨A, rfl⟩ := Int.eq_ofNat_of_zero_le hon.1
      obtain ⟨N, rfl⟩ := Int.eq_ofNat_of_zero_le hon.2.1
      have hlb : (s.b.length : Int) ≤ 131072 := by have := hok.len; have := hok.few; omega
      have hln : ((s.b.drop A).take N).length = N := by simp; omega
      have hcv := run_bytes_at Tryz.prog w bb A (bcap - A) ((s.b.drop A).take N) 22 9 5 N hln Tryz.underlying22 Tryz.underlying5 Tryz.underlying9 (fun j u hu => by
        have hj : j < N := by have := (List.getElem?_eq_some_iff.1 hu).1; rw [hln] at this; exact this
        rw [List.getElem?_take, if_pos hj, List.getElem?_drop] at hu
        exact hby.out _ _ hu)
      have HO := Box.mk ho; clear ho hln hby
      have hbI : ((s.b.length : Nat) : Int) ≤ (bcap : Int) := by omega
      have hANI : (A : Int) + (N : Int) ≤ (bcap : Int) := by omega
      go_enter Tryz.func60, Tryz.ntmps60
      go_wp2_with fail
      refine (within_any p bb cb s A N _ HF.out hok (by omega) (by omega)).mono ?_
      rintro e w1 ⟨rfl, rfl⟩
      rw [HO.out]
      have hcv2 : bcap = A → (convert 22 9 (.slice (some ⟨bb, 0, none⟩) N 0)).run Tryz.prog w = .ok (.string ⟨((s.b.drop A).take N).toArray⟩) w := fun e => by
        have hN : N = 0 := by omega
        subst hN
        have := run_bytes_at Tryz.prog w bb 0 0 [] 22 9 5 0 rfl Tryz.underlying22 Tryz.underlying5 Tryz.underlying9 (fun j u hu => by simp at hu)
        rw [this]; simp
      by_cases hcA : bcap = A
      · have hcv2 := hcv2 hcA
        go_wp2
        go_ret2
        exact ⟨rfl, rfl⟩
      · clear hcv2
        go_wp2
        go_ret2
        exact ⟨rfl, rfl⟩
    · rw [if_neg ho]
      have ho' : onB s.b.length at_ n = false := by simpa using ho
      have HO := Box.mk ho'; clear ho ho' hby
      go_enter Tryz.func60, Tryz.ntmps60
      go_wp2_with fail
      refine (within_any p bb cb s at_ n _ HF.out hok ba bn).mono ?_
      rintro e w1 ⟨rfl, rfl⟩
      rw [HO.out]
      go_wp2
      go_ret2
      exact ⟨rfl, rfl⟩
end Go.Proofs.YtjednaendedpdaaGreat
namespace Go.Proofs.YtjednaendedpdaaGreat
set_option maxRecDepth 100000
set_option linter.unusedVariables false
open Go Go.RowKit

theorem info_int : (Tryz.prog.info? 3).map (fun i => (i.zero, i.size, i.bytes)) = some (some (.int .i64 0), 1, 8) := by kernel_rfl
theorem info_u8 : (Tryz.prog.info? 5).map (fun i => (i.zero, i.size, i.bytes)) = some (some (.int .u8 0), 1, 1) := by kernel_rfl
theorem made_one (z : Value) (hz : z.cells = #[z]) (m : Nat) : madeCells z.cells (m * 1) = Array.replicate m z := by
  rw [hz, Nat.mul_one]
  apply Array.ext
  · simp [madeCells]
  · intro i h1 h2
    simp [madeCells, Nat.mod_one]
theorem make_ints (m : Nat) (x : Int) (hx : x = m) (hm : m ≤ 1000000) (w : World) :
    (Instr.makeSlice 64 (.int .i64 x) (.int .i64 x)).run Tryz.prog w = .ok (.slice (some ⟨w.heap.size, 0, none⟩) m m) (w.alloc (.cells (Array.replicate m (.int .i64 0)) 3)) := by
  subst hx
  obtain ⟨i0, hi, hz0, hz1, hz2⟩ := info_parts info_int
  have h := run_make (P := Tryz.prog) w 64 3 i0 (.int .i64 0) Tryz.underlying64 hi hz0 .i64 .i64 m m (by omega) (by omega) (by rw [hz2]; omega) (by omega)
  rw [h, hz1, Int.toNat_natCast, made_one _ rfl]
theorem make_bytes (m : Nat) (x : Int) (hx : x = m) (hm : m ≤ 1000000) (w : World) :
    (Instr.makeSlice 22 (.int .i64 x) (.int .i64 x)).run Tryz.prog w = .ok (.slice (some ⟨w.heap.size, 0, none⟩) m m) (w.alloc (.cells (Array.replicate m (.int .u8 0)) 5)) := by
  subst hx
  obtain ⟨i0, hi, hz0, hz1, hz2⟩ := info_parts info_u8
  have h := run_make (P := Tryz.prog) w 22 5 i0 (.int .u8 0) Tryz.underlying22 hi hz0 .i64 .i64 m m (by omega) (by omega) (by rw [hz2]; omega) (by omega)
  rw [h, hz1, Int.toNat_natCast, made_one _ rfl]

/-- A new flash's state. -/
def FS.new (l : List UInt8) : FS := { b := l, n := List.replicate (l.length / 512) 0, steps := 0, armed := 0, keep := 0, mask := 0, dead := false }
@[irreducible] def sizeB (n : Nat) : Bool := decide (1 ≤ n / 512 ∧ n / 512 ≤ 256 ∧ n % 512 = 0)
theorem FS.new_ok {l : List UInt8} (h : sizeB l.length = true) : (FS.new l).Ok := by
  unfold sizeB at h
  have h := of_decide_eq_true h
  exact ⟨by simp [FS.new], by simp [FS.new], by simp only [FS.new, List.length_replicate]; omega, by simp only [FS.new, List.length_replicate]; omega⟩

theorem row_old (W : World) (A B : Obj) : ((W.alloc A).alloc B).heap[W.heap.size]? = some A := by
  rw [heap_alloc_old _ _ (by simp), heap_alloc_new]
theorem row_new (W : World) (A B : Obj) : ((W.alloc A).alloc B).heap[W.heap.size + 1]? = some B := by
  have := heap_alloc_new (W.alloc A) B
  rwa [World.size_alloc] at this

/-- Bytes in a row of the call's own. -/
def BRow (w : World) (bb : Nat) (l : List UInt8) : Prop := ∃ sp fr, w.heap[bb]? = some (.cells (l.map bval ++ sp).toArray 5 fr) ∧ (fr = (0, 0) ∨ l.length ≤ fr.1)

/-- What making a flash answers: a new one, of these bytes; at bytes bb. -/
def MadeAt (t : TypeId) (w : World) (bb : Nat) (l : List UInt8) (e : Ending) (w' : World) : Prop :=
  ∃ p cb, e = .returned (.tuple #[.pointer (some ⟨p, 0, none⟩), .int .i64 0]) ∧ Fl t w' p bb cb (FS.new l) ∧ w.heap.size ≤ p ∧ w.heap.size ≤ cb ∧ Below w.heap.size w w'
def Made (t : TypeId) (w : World) (l : List UInt8) (e : Ending) (w' : World) : Prop :=
  ∃ p bb cb, e = .returned (.tuple #[.pointer (some ⟨p, 0, none⟩), .int .i64 0]) ∧ Fl t w' p bb cb (FS.new l) ∧ w.heap.size ≤ p ∧ w.heap.size ≤ bb ∧ w.heap.size ≤ cb ∧ Below w.heap.size w w'

set_option maxHeartbeats 1000000 in
theorem of_yes (bb cap : Nat) (l : List UInt8) (n : Nat) (hn : l.length = n) (w : World) (h : BRow w bb l) (hcap : n ≤ cap) (hl : n ≤ 1000000) (hs : sizeB n = true) :
    Calls Tryz.prog 24 #[.slice (some ⟨bb, 0, none⟩) n cap] w (MadeAt 89 w bb l) := by
  have hs' : 1 ≤ n / 512 ∧ n / 512 ≤ 256 ∧ n % 512 = 0 := by unfold sizeB at hs; exact of_decide_eq_true hs
  have hmk := fun w => make_ints (n / 512) ((n : Int) / 512) (by omega) (by omega) w
  have h1 : ¬ (n : Int) / 512 < 1 := by omega
  have h2 : ¬ (256 : Int) < (n : Int) / 512 := by omega
  have h3 : ((n : Int) % 512 != 0) = false := by rw [bne_eq_false_iff_eq]; omega
  clear hs hs'
  have HR := Box.mk h; clear h
  have HN := Box.mk hn; clear hn
  go_enter Tryz.func24, Tryz.ntmps24
  go_wp2
  go_ret2
  refine ⟨w.heap.size + 1, w.heap.size, rfl, ?_, by omega, by omega, by go_grown⟩
  obtain ⟨sp, fr, hb, hfr⟩ := HR.out
  have hlt := (Array.getElem?_eq_some_iff.1 hb).1
  refine ⟨⟨cap, n / 512, by show l.length ≤ cap; rw [HN.out]; exact hcap, by simp [FS.new, HN.out], ?_⟩, ⟨sp, fr, ?_, hfr⟩, ⟨[], ?_⟩, by omega, by omega, by omega⟩
  · rw [row_new]; simp [FS.new, HN.out]
  · rw [heap_alloc_old _ _ (by simp; omega), heap_alloc_old _ _ hlt]; exact hb
  · rw [row_old]; simp [FS.new, HN.out, nval]

set_option maxHeartbeats 1000000 in
theorem of_no (bb : Option Addr) (n cap : Nat) (w : World) (hl : n ≤ 1000000) (hs : sizeB n = false) :
    Calls Tryz.prog 24 #[.slice bb n cap] w fun e w' => e = .returned (.tuple #[.pointer none, .int .i64 110]) ∧ w = w' := by
  have hs' : ¬ (1 ≤ n / 512 ∧ n / 512 ≤ 256 ∧ n % 512 = 0) := by unfold sizeB at hs; exact of_decide_eq_false hs
  have HS := Box.mk hs'; clear hs hs'
  by_cases h1 : (n : Int) / 512 < 1
  · have h1' : decide ((n : Int) / 512 < 1) = true := by simpa using h1
    go_enter Tryz.func24, Tryz.ntmps24
    go_wp2
    go_ret2
    exact ⟨rfl, rfl⟩
  · have h1' : decide ((n : Int) / 512 < 1) = false := by simpa using h1
    by_cases h2 : (256 : Int) < (n : Int) / 512
    · have h2' : decide ((256 : Int) < (n : Int) / 512) = true := by simpa using h2
      go_enter Tryz.func24, Tryz.ntmps24
      go_wp2
      go_ret2
      exact ⟨rfl, rfl⟩
    · have h2' : decide ((256 : Int) < (n : Int) / 512) = false := by simpa using h2
      have h3 : ((n : Int) % 512 != 0) = true := by rw [bne_iff_ne]; have := HS.out; omega
      go_enter Tryz.func24, Tryz.ntmps24
      go_wp2
      go_ret2
      exact ⟨rfl, rfl⟩

theorem bytesWorld_row (w : World) (s : ByteArray) : BRow (Lib.bytesWorld w 5 s) w.heap.size s.data.toList := by
  refine ⟨List.replicate (grownCap w s.size 0 5 - s.size) (.int .u8 0), ((Lib.bytesCells w 5 s).size, (Lib.bytesCells w 5 s).size + 1), ?_, ?_⟩
  · rw [Lib.bytesWorld_at_new]
    congr 2
    simp [Lib.bytesCells, bval]
  · right; simp [Lib.bytesCells]
theorem bytesWorld_below (w : World) (s : ByteArray) : Below w.heap.size w (Lib.bytesWorld w 5 s) :=
  ⟨rfl, rfl, rfl, by rw [Lib.bytesWorld_size]; omega, fun k hk => Lib.bytesWorld_at_old w 5 s k hk⟩

set_option maxHeartbeats 1000000 in
theorem open_yes (s : ByteArray) (w : World) (hs : sizeB s.size = true) :
    Calls Tryz.prog 5 #[.string s] w (Made 89 w s.data.toList) := by
  have hs' : 1 ≤ s.size / 512 ∧ s.size / 512 ≤ 256 ∧ s.size % 512 = 0 := by unfold sizeB at hs; exact of_decide_eq_true hs
  have hcv := fun w => Lib.run_convert_string_bytes (P := Tryz.prog) w 9 22 5 s Tryz.underlying9 Tryz.underlying22 Tryz.underlying5
  have h0 : ¬ (131072 : Int) < (s.size : Int) := by omega
  have HS := Box.mk hs; clear hs
  go_enter Tryz.func5, Tryz.ntmps5
  go_wp2_with fail
  refine (of_yes w.heap.size (grownCap w s.size 0 5) s.data.toList s.size (by simp) _ (bytesWorld_row w s) (grownCap_ge w _ _ _) (by omega) HS.out).mono ?_
  rintro e w1 ⟨p, cb, rfl, hf, h1, h2, hb⟩
  have hb0 := bytesWorld_below w s
  have hz := hb0.size
  go_wp2
  go_ret2
  exact ⟨p, w.heap.size, cb, rfl, hf, by omega, by omega, by omega, hb0.trans (hb.mono hz)⟩

set_option maxHeartbeats 1000000 in
theorem open_no (s : ByteArray) (w : World) (hs : sizeB s.size = false) :
    Calls Tryz.prog 5 #[.string s] w fun e w' => e = .returned (.tuple #[.pointer none, .int .i64 110]) ∧ Below w.heap.size w w' := by
  by_cases h0 : (131072 : Int) < (s.size : Int)
  · clear hs
    go_enter Tryz.func5, Tryz.ntmps5
    go_wp2
    go_ret2
    exact ⟨rfl, Below.refl _ _⟩
  · have hcv := fun w => Lib.run_convert_string_bytes (P := Tryz.prog) w 9 22 5 s Tryz.underlying9 Tryz.underlying22 Tryz.underlying5
    have HS := Box.mk hs; clear hs
    go_enter Tryz.func5, Tryz.ntmps5
    go_wp2_with fail
    refine (of_no _ s.size _ _ (by omega) HS.out).mono ?_
    rintro e w1 ⟨rfl, rfl⟩
    have hb0 := bytesWorld_below w s
    go_wp2
    go_ret2
    exact ⟨rfl, hb0⟩
end Go.Proofs.YtjednaendedpdaaGreat
namespace Go.Proofs.YtjednaendedpdaaGreat
set_option maxRecDepth 100000
set_option linter.unusedVariables false
open Go Go.RowKit

theorem mul64_any (x y : Nat) (hx : x < 18446744073709551616) (hy : y < 18446744073709551616) (w : World) :
    Calls Tryz.prog 104 #[.int .u64 x, .int .u64 y] w fun e w' => e = .returned (.tuple #[.int .u64 ((x * y / 18446744073709551616 : Nat) : Int), .int .u64 ((x * y % 18446744073709551616 : Nat) : Int)]) ∧ w' = w := by
  obtain ⟨bd, bt, bw, hhi⟩ := Lib.mul64_hi x y hx hy
  have ba := Lib.half_mul_le (a := x / 4294967296) (b := y / 4294967296) (by omega) (by omega)
  have bb := Lib.half_mul_le (a := x / 4294967296) (b := y % 4294967296) (by omega) (by omega)
  have bc := Lib.half_mul_le (a := x % 4294967296) (b := y / 4294967296) (by omega) (by omega)
  have b1 : x / 4294967296 * (y / 4294967296) < 18446744073709551616 := by omega
  have b2 : x / 4294967296 * (y % 4294967296) < 18446744073709551616 := by omega
  have b3 : x % 4294967296 * (y / 4294967296) < 18446744073709551616 := by omega
  have b4 : x / 4294967296 * (y / 4294967296) + (x / 4294967296 * (y % 4294967296) + x % 4294967296 * (y % 4294967296) / 4294967296) / 4294967296 < 18446744073709551616 := by omega
  have b5 : x / 4294967296 * (y / 4294967296) + (x / 4294967296 * (y % 4294967296) + x % 4294967296 * (y % 4294967296) / 4294967296) / 4294967296 + ((x / 4294967296 * (y % 4294967296) + x % 4294967296 * (y % 4294967296) / 4294967296) % 4294967296 + x % 4294967296 * (y / 4294967296)) / 4294967296 < 18446744073709551616 := by omega
  go_enter Tryz.func104, Tryz.ntmps104
  go_wp2
  simp only [Mul64.maskN x hx, Mul64.maskN y hy, Mul64.divN, Mul64.mulN, Mul64.addN, Mul64.wrapN _ bd, Mul64.wrapN _ b2, Mul64.wrapN _ bt, Mul64.maskN _ bt, Mul64.wrapN _ b3, Mul64.wrapN _ bw, Mul64.wrapN _ b1, Mul64.wrapN _ b4, Mul64.wrapN _ b5, Mul64.wrapM (x * y)]
  rw [hhi]
  go_ret2
  exact ⟨rfl, rfl⟩

theorem mul_one (y : Nat) (hy : y < 18446744073709551616) (w : World) :
    Calls Tryz.prog 82 #[.int .u64 1, .int .u64 y] w fun e w' => e = .returned (.tuple #[.int .u64 0, .int .u64 y]) ∧ w' = w := by
  have e1 : ((1 * y / 18446744073709551616 : Nat) : Int) = 0 := by omega
  have e2 : ((1 * y % 18446744073709551616 : Nat) : Int) = y := by omega
  have h := mul64_any 1 y (by omega) hy
  rw [e1, e2] at h
  go_enter Tryz.func82, Tryz.ntmps82
  go_wp2_with fail
  refine (h _).mono ?_
  rintro e w1 ⟨rfl, rfl⟩
  go_wp2
  go_ret2
  exact ⟨rfl, rfl⟩

theorem nozero_any (n : Nat) (hn : n ≤ 281474976710656) (w : World) :
    ∃ cs : Array Value, (callFunc 97 #[.int .i64 n]).run Tryz.prog w = .ok (.value (.slice (some ⟨w.heap.size, 0, none⟩) n cs.size)) (w.drew.drew.alloc (.cells cs 5)) ∧ n ≤ cs.size := by
  obtain ⟨cs, h, hc, _⟩ := Lib.run_makeNoZero (P := Tryz.prog) w #[] 22 5 Tryz.underlying22 n hn
  refine ⟨cs, ?_, hc⟩
  rw [run_callFunc_extern (e := Extern.BytealgMakeNoZero.makeNoZero #[] #[22]) Tryz.func97 (by kernel_rfl) (by kernel_rfl) (by kernel_rfl) (by kernel_rfl), h]
  rfl

/-- What holds at the head of Repeat's loop. -/
structure RepSt (w : World) (g C : Nat) (k : Nat) (wr : World) : Prop where
  row : ∃ L : List Value, wr.heap[g]? = some (.cells (List.replicate k (bval 255) ++ L).toArray 5 (0, 0)) ∧ k + L.length = C
  below : Below w.heap.size w wr

theorem repeat_first (p n : Nat) (w : World) (cs : Array Value) (hn : 1 ≤ n) (hcs : n ≤ cs.size) (hp : w.cell? ⟨p, 0, none⟩ = some (bval 255)) (hpl : p < w.heap.size) :
    ∃ W1, (Builtin.copy_ #[22, 22] 3 #[.slice (some ⟨w.heap.size, 0, none⟩) n n, .slice (some ⟨p, 0, none⟩) 1 1]).run Tryz.prog (w.alloc (.cells cs 5)).drew.drew = .ok (.int .i64 1) W1 ∧ RepSt w w.heap.size cs.size 1 W1 := by
  have hg : (w.alloc (.cells cs 5)).drew.drew.heap[w.heap.size]? = some (.cells cs 5 (0, 0)) := heap_alloc_new _ _
  have h := run_copy_row (P := Tryz.prog) (w.alloc (.cells cs 5)).drew.drew 22 22 3 5 w.heap.size 0 n n ⟨p, 0, none⟩ 1 1 cs 5 [bval 255] Tryz.underlying22 (by kernel_rfl) hg (by simp [Nat.min_def]; omega) (by
      intro j v hj
      rcases j with _ | j
      · simp at hj; subst hj
        have hb : Below w.heap.size w (w.alloc (.cells cs 5)).drew.drew := by go_grown
        have := hb.cell (p := ⟨p, 0, none⟩) hpl
        show (w.alloc (.cells cs 5)).drew.drew.cell? ⟨p, 0, none⟩ = _
        rw [this]; exact hp
      · simp at hj) (by simp; omega) (by simp [bval]; rfl)
  refine ⟨_, h, ⟨(cs.toList.drop 1), ?_, ?_⟩, ?_⟩
  · rw [setRow_heap _ _ _ _ _ _ hg]; simp
  · simp; omega
  · exact below_setRow (by go_grown) (Nat.le_refl _) _

theorem RepSt.src {w wr : World} {g C k : Nat} (h : RepSt w g C k wr) (m : Nat) (hm : m ≤ k) (j : Nat) (v : Value) (hj : (List.replicate m (bval 255))[j]? = some v) : wr.cell? ((⟨g, 0, none⟩ : Addr).add j) = some v := by
  obtain ⟨L, hL, _⟩ := h.row
  rw [List.getElem?_replicate] at hj
  split at hj
  · rename_i hjm
    have e : (⟨g, 0, none⟩ : Addr).add j = ⟨g, j, none⟩ := by unfold Addr.add; split <;> simp_all
    rw [e, cell_of_row _ _ _ _ _ _ hL]
    simp only [List.getElem?_toArray]
    rw [List.getElem?_append_left (by simp; omega), List.getElem?_replicate, if_pos (by omega)]
    exact hj
  · cases hj
theorem RepSt.next {w : World} {g C k m : Nat} (L : List Value) (hl : k + L.length = C) (hm : k + m ≤ C) {wr : World} (hb : Below w.heap.size w wr)
    (h : wr.heap[g]? = some (.cells (splice (List.replicate k (bval 255) ++ L) k (List.replicate m (bval 255))).toArray 5 (0, 0))) : RepSt w g C (k + m) wr := by
  refine ⟨⟨L.drop m, ?_, by simp; omega⟩, hb⟩
  rw [h]
  congr 3
  simp only [splice]
  rw [List.take_left' (by simp), ← List.append_assoc, List.length_replicate, List.drop_append, List.drop_eq_nil_of_le (by simp)]
  simp

theorem wrap_small (k m : Nat) (h : k + m ≤ 9223372036854775807) : IntKind.i64.wrap ((k : Int) + (m : Int)) = ((k + m : Nat) : Int) := by
  rw [IntKind.wrap_i64]; omega
set_option maxHeartbeats 1000000 in
theorem repeat_any (p n : Nat) (w : World) (hn : 1 ≤ n) (hn2 : n ≤ 1000000) (hp : w.cell? ⟨p, 0, none⟩ = some (bval 255)) (hpl : p < w.heap.size) :
    Calls Tryz.prog 75 #[.slice (some ⟨p, 0, none⟩) 1 1, .int .i64 n] w fun e w' => ∃ g, w.heap.size ≤ g ∧ e = .returned (.slice (some ⟨g, 0, none⟩) n n) ∧ BRow w' g (List.replicate n 255) ∧ Below w.heap.size w w' := by
  have hm := fun w => mul_one n (by omega) w
  obtain ⟨cs, hmk, hcs⟩ := nozero_any n (by omega) w
  obtain ⟨W1, hcopy, hst⟩ := repeat_first p n w cs hn hcs hp hpl
  have HM := Box.mk hm; clear hm
  have HST := Box.mk hst; clear hst
  have h0 : ((n : Int) == 0) = false := by rw [beq_eq_false_iff_ne]; omega
  have h1 : decide ((n : Int) < 0) = false := by simp
  go_enter Tryz.func75, Tryz.ntmps75
  go_wp2_with fail
  refine (HM.out _).mono ?_
  rintro e w1 ⟨rfl, rfl⟩
  have h2 : decide ((9223372036854775807 : Int) < (n : Int)) = false := by rw [decide_eq_false_iff_not]; omega
  go_wp2_with fail
  all_goals
    go_loopw [10] (fun i wr => ∃ k : Nat, 1 ≤ k ∧ k ≤ n ∧ i = .int .i64 k ∧ RepSt w1 w1.heap.size cs.size k wr) (fun i _ => n - (intOf i).toNat)
    case atStart => exact ⟨1, by omega, hn, rfl, HST.out⟩
    case round =>
      clear HST hcopy
      obtain ⟨k, hk1, hk, rfl, hs⟩ := hrel
      have HS := Box.mk hs; clear hs
      by_cases hlt : k < n
      · have hltI : (k : Int) < (n : Int) := by omega
        have hkn : (k : Int) ≤ (n : Int) := by omega
        go_wp2_with fail
        all_goals
          obtain ⟨L, hL, hLl⟩ := HS.out.row
          have HR := Box.mk hL; clear hL
        all_goals first
        | have h8k : (8192 : Int) < (k : Int) := by assumption
          have h8n : (8192 : Int) ≤ (n : Int) := by omega
          obtain ⟨m, hm⟩ : ∃ m, m = min 8192 (n - k) := ⟨_, rfl⟩
          have S1 := Box.mk (HS.out.src m (by omega))
          have HM := Box.mk hm
          have hm1 : 1 ≤ m := by omega
          have hm2 : k + m ≤ n := by omega
          clear hm
          go_region_law (refine step_copy_splice rfl (.tmp 70) (.tmp 73) 22 22 rfl 5 Tryz.underlying22 (by kernel_rfl) (if n = k then some ⟨w1.heap.size, 0, none⟩ else some ⟨w1.heap.size, k, none⟩) (some ⟨w1.heap.size, 0, none⟩) (n - k) (n - k) 8192 n (by simp [Act.eval, Act.put]) (by simp [Act.eval, Act.put]) w1.heap.size k _ 5 HR.out (List.replicate m (bval 255)) (by rw [List.length_replicate]; exact HM.out) (fun _ => ⟨if_neg (by omega), _, rfl, S1.out⟩) (by rw [List.length_append, List.length_replicate, List.length_replicate]; omega) (by intro v hv; rw [List.eq_of_mem_replicate hv]; rfl) w1.heap.size w1 HS.out.below.drew (Nat.le_refl _) ?_; intro w4 hg4 hb4)
          have HG := Box.mk hg4.out; clear hg4
          have hwr : IntKind.i64.wrap ((k : Int) + (m : Int)) = ((k + m : Nat) : Int) := wrap_small _ _ (by omega)
          rw [hwr]
          go_wp2_with fail
          exact ⟨⟨k + m, by omega, by omega, by go_num, RepSt.next L hLl (by omega) hb4 HG.out⟩, by simp [intOf]; omega⟩
        | skip
          obtain ⟨m, hm⟩ : ∃ m, m = min k (n - k) := ⟨_, rfl⟩
          have S1 := Box.mk (HS.out.src m (by omega))
          have HM := Box.mk hm
          have hm1 : 1 ≤ m := by omega
          have hm2 : k + m ≤ n := by omega
          clear hm
          go_region_law (refine step_copy_splice rfl (.tmp 70) (.tmp 73) 22 22 rfl 5 Tryz.underlying22 (by kernel_rfl) (if n = k then some ⟨w1.heap.size, 0, none⟩ else some ⟨w1.heap.size, k, none⟩) (some ⟨w1.heap.size, 0, none⟩) (n - k) (n - k) k n (by simp [Act.eval, Act.put]) (by simp [Act.eval, Act.put]) w1.heap.size k _ 5 HR.out (List.replicate m (bval 255)) (by rw [List.length_replicate]; exact HM.out) (fun _ => ⟨if_neg (by omega), _, rfl, S1.out⟩) (by rw [List.length_append, List.length_replicate, List.length_replicate]; omega) (by intro v hv; rw [List.eq_of_mem_replicate hv]; rfl) w1.heap.size w1 HS.out.below.drew (Nat.le_refl _) ?_; intro w4 hg4 hb4)
          have HG := Box.mk hg4.out; clear hg4
          have hwr : IntKind.i64.wrap ((k : Int) + (m : Int)) = ((k + m : Nat) : Int) := wrap_small _ _ (by omega)
          rw [hwr]
          go_wp2_with fail
          exact ⟨⟨k + m, by omega, by omega, by go_num, RepSt.next L hLl (by omega) hb4 HG.out⟩, by simp [intOf]; omega⟩
      · obtain rfl : k = n := by omega
        go_wp2
        go_ret
        obtain ⟨L, hL, _⟩ := HS.out.row
        exact ⟨_, Nat.le_refl _, rfl, ⟨L, (0, 0), by rw [hL]; simp, Or.inl rfl⟩, HS.out.below⟩
end Go.Proofs.YtjednaendedpdaaGreat
namespace Go.Proofs.YtjednaendedpdaaGreat
set_option maxRecDepth 100000
set_option linter.unusedVariables false
open Go Go.RowKit

/-- So many blocks are a flash's. -/
@[irreducible] def sizeN (n : Int) : Bool := decide (1 ≤ n ∧ n ≤ 256)
set_option maxHeartbeats 1000000 in
theorem new_yes (k : Nat) (w : World) (hs : sizeN k = true) :
    Calls Tryz.prog 46 #[.int .i64 k] w (Made 89 w (List.replicate (512 * k) 255)) := by
  have hk : 1 ≤ (k : Int) ∧ (k : Int) ≤ 256 := by unfold sizeN at hs; exact of_decide_eq_true hs
  have HS := Box.mk hs; clear hs
  have h1 : decide ((k : Int) < 1) = false := by rw [decide_eq_false_iff_not]; omega
  have h2 : decide (256 < (k : Int)) = false := by rw [decide_eq_false_iff_not]; omega
  go_enter Tryz.func46, Tryz.ntmps46
  go_wp2_with fail
  obtain ⟨n, hn⟩ : ∃ n, n = 512 * k := ⟨_, rfl⟩
  have hn1 : ((k : Int) * 512) = (n : Int) := by omega
  have hsz : sizeB n = true := by unfold sizeB; rw [decide_eq_true_iff]; omega
  rw [hn1, ← hn]
  have HN := Box.mk hn; clear hn hn1
  have HSZ := Box.mk hsz; clear hsz
  have hn2 : 1 ≤ n := by have := HN.out; omega
  have hn3 : n ≤ 1000000 := by have := HN.out; omega
  refine (repeat_any w.heap.size n _ hn2 hn3 (cell_of_row _ _ _ _ _ _ (heap_alloc_new _ _)) (by simp)).mono ?_
  rintro e w1 ⟨g, hg, rfl, hrow, hb⟩
  have hz := hb.size
  simp only [World.size_alloc] at hg hz
  go_wp2_with fail
  refine (of_yes g n (List.replicate n 255) n (by simp) _ hrow (Nat.le_refl _) hn3 HSZ.out).mono ?_
  rintro e w2 ⟨p, cb, rfl, hf, hp, hc, hb2⟩
  go_wp2
  go_ret2
  have hz2 := hb2.size
  exact ⟨p, g, cb, rfl, hf.to (by rw [HN.out]), by omega, by omega, by omega, ((((Below.refl _ _).alloc (Nat.le_refl _) _).trans (hb.mono (by simp)))).trans (hb2.mono (by omega))⟩

theorem new_no (k : Int) (w : World) (hs : sizeN k = false) :
    Calls Tryz.prog 46 #[.int .i64 k] w fun e w' => e = .returned (.tuple #[.pointer none, .int .i64 110]) ∧ w = w' := by
  have hk : ¬ (1 ≤ k ∧ k ≤ 256) := by unfold sizeN at hs; exact of_decide_eq_false hs
  have HS := Box.mk hs; clear hs
  by_cases h : k < 1
  · have h1 : decide (k < 1) = true := by simpa using h
    clear hk
    go_enter Tryz.func46, Tryz.ntmps46
    go_wp2
    go_ret2
    exact ⟨rfl, rfl⟩
  · have h1 : decide (k < 1) = false := by simpa using h
    have h2 : decide (256 < k) = true := by rw [decide_eq_true_iff]; omega
    clear hk
    go_enter Tryz.func46, Tryz.ntmps46
    go_wp2
    go_ret2
    exact ⟨rfl, rfl⟩

theorem str_ne (s : ByteArray) (h : s.size ≠ 0) : s.toList.isEmpty = false := by
  rw [ByteArray.toList_eq]; cases hd : s.data.toList with
  | nil => exact absurd (by have := congrArg List.length hd; simpa using this) h
  | cons a b => rfl
theorem str_no (s : ByteArray) (h : s.size = 0) : s.toList.isEmpty = true := by
  rw [ByteArray.toList_eq, List.isEmpty_iff]; exact List.eq_nil_of_length_eq_zero (by simpa using h)
theorem zeros_str (m : Nat) (w : World) : (convert 22 9 (.slice (some ⟨w.heap.size, 0, none⟩) m m)).run Tryz.prog (w.alloc (.cells (Array.replicate m (.int .u8 0)) 5)) = .ok (.string ⟨(List.replicate m 0).toArray⟩) (w.alloc (.cells (Array.replicate m (.int .u8 0)) 5)) :=
  run_bytes_at Tryz.prog _ w.heap.size 0 m (List.replicate m 0) 22 9 5 m (by simp) Tryz.underlying22 Tryz.underlying5 Tryz.underlying9 (fun j u hu => by
    rw [List.getElem?_replicate] at hu
    split at hu
    · rename_i hj
      cases hu
      rw [cell_of_row _ _ _ _ _ _ (heap_alloc_new _ _), Array.getElem?_replicate, if_pos (by omega)]; rfl
    · cases hu)

end Go.Proofs.YtjednaendedpdaaGreat
namespace Go.Proofs.YtjednaendedpdaaGreat
set_option maxRecDepth 100000
set_option linter.unusedVariables false
open Go Go.RowKit

theorem progBytes_at (b : List UInt8) (A : Nat) (l : List UInt8) (gone : Bool) (keep : Int) (mask : UInt8) (k : Nat) :
    (progBytes b A l gone keep mask)[k]? = (b[k]?).map fun old => if A ≤ k then (match l[k - A]? with | some c => progByte gone keep mask (k - A) old c | none => old) else old := by
  simp only [progBytes, List.getElem?_mapIdx]
  rfl
/-- A step on a living flash. -/
theorem FS.program_go (s : FS) (A : Nat) (l : List UInt8) (hd : s.dead = false) (hl : l ≠ []) (hA : A + l.length ≤ s.b.length) (hp : (A : Int) / 64 = ((A : Int) + l.length - 1) / 64) :
    s.program A l = ({ s.step with b := progBytes s.b A l s.goes s.keep s.mask }, toldI s.goes) := by
  unfold FS.program
  rw [if_neg (by rw [hd]; decide), if_neg (by unfold onB; rw [decide_eq_false_iff_not]; omega), if_neg hl, if_neg (by simpa using hp)]
  rfl
@[irreducible] def fb0 : List UInt8 := List.replicate 512 255
@[irreducible] def fb1 : List UInt8 := progBytes fb0 0 [15, 240] false 0 0
@[irreducible] def fb2 : List UInt8 := progBytes fb1 1 [15] false 0 0
@[irreducible] def fb5 : List UInt8 := progBytes fb2 8 [0, 0] true 1 15
def fx0 : FS := { b := fb0, n := [0], steps := 0, armed := 0, keep := 0, mask := 0, dead := false }
def fx1 : FS := { fx0 with b := fb1, steps := 1 }
def fx2 : FS := { fx0 with b := fb2, steps := 2 }
def fx4 : FS := { fx2 with armed := 1, keep := 1, mask := 15 }
def fx5 : FS := { fx4 with b := fb5, steps := 3, armed := 0, dead := true }
theorem fb0_len : fb0.length = 512 := by unfold fb0; rw [List.length_replicate]
theorem fb1_len : fb1.length = 512 := by unfold fb1; rw [progBytes_length, fb0_len]
theorem fb2_len : fb2.length = 512 := by unfold fb2; rw [progBytes_length, fb1_len]
theorem fb5_len : fb5.length = 512 := by unfold fb5; rw [progBytes_length, fb2_len]
theorem fx_new : FS.new (List.replicate (512 * 1) 255) = fx0 := by
  unfold FS.new fx0 fb0; rw [List.length_replicate]; kernel_rfl
theorem fx_a : fx0.program 0 [15, 240] = (fx1, 0) := by
  have h := FS.program_go fx0 0 [15, 240] rfl (by simp) (by show _ ≤ fb0.length; rw [fb0_len]; decide) (by decide)
  exact h.trans (by kernel_rfl)
theorem fx_b : fx1.program 1 [15] = (fx2, 0) := by
  have h := FS.program_go fx1 1 [15] rfl (by simp) (by show _ ≤ fb1.length; rw [fb1_len]; decide) (by decide)
  exact h.trans (by kernel_rfl)
theorem fx_c : fx2.program 63 [120, 120] = (fx2, 112) := by
  unfold FS.program
  rw [if_neg (by decide), if_neg (by unfold onB; rw [decide_eq_false_iff_not]; show ¬ ¬ (_ ∧ _ ∧ _ ≤ ((fb2.length : Nat) : Int)); rw [fb2_len]; decide), if_neg (by simp), if_pos (by decide)]
theorem fx_i : fx2.arm 1 1 15 = (fx4, 0) := by
  unfold FS.arm
  rw [if_neg (by decide), if_neg (by decide)]
  rfl
theorem fx_j : fx4.program 8 [0, 0] = (fx5, 2) := by
  have h := FS.program_go fx4 8 [0, 0] rfl (by simp) (by show _ ≤ fb2.length; rw [fb2_len]; decide) (by decide)
  exact h.trans (by kernel_rfl)
theorem fb0_at (k : Nat) (h : k < 512) : fb0[k]? = some 255 := by rw [fb0, List.getElem?_replicate, if_pos h]
theorem fx_d2 : onB fx2.b.length 0 3 = true := by
  unfold onB; rw [decide_eq_true_iff]; show _ ∧ _ ∧ _ ≤ ((fb2.length : Nat) : Int); rw [fb2_len]; decide
theorem fx_d3 : (fx2.b.drop (0 : Int).toNat).take (3 : Int).toNat = [15, 0, 255] := by
  have h0 : fb2[0]? = some 15 := by rw [fb2, progBytes_at, fb1, progBytes_at, fb0_at 0 (by omega)]; decide
  have h1 : fb2[1]? = some 0 := by rw [fb2, progBytes_at, fb1, progBytes_at, fb0_at 1 (by omega)]; decide
  have h2 : fb2[2]? = some 255 := by rw [fb2, progBytes_at, fb1, progBytes_at, fb0_at 2 (by omega)]; decide
  show (fb2.drop 0).take 3 = _
  rw [List.drop_zero]
  apply List.ext_getElem?
  intro i
  rw [List.getElem?_take]
  rcases i with _ | _ | _ | i
  · exact h0
  · exact h1
  · exact h2
  · rw [if_neg (by omega)]; rfl
theorem fx_e5 : fb5[8]? = some 0 := by
  rw [fb5, progBytes_at, fb2, progBytes_at, fb1, progBytes_at, fb0_at 8 (by omega)]; decide
theorem fx_e6 : fb5[9]? = some 15 := by
  rw [fb5, progBytes_at, fb2, progBytes_at, fb1, progBytes_at, fb0_at 9 (by omega)]; decide
theorem fx0_ok : fx0.Ok := ⟨by decide, by decide, fb0_len, by decide⟩
theorem fx1_ok : fx1.Ok := ⟨by decide, by decide, fb1_len, by decide⟩
theorem fx2_ok : fx2.Ok := ⟨by decide, by decide, fb2_len, by decide⟩
theorem fx4_ok : fx4.Ok := ⟨by decide, by decide, fb2_len, by decide⟩

end Go.Proofs.YtjednaendedpdaaGreat
