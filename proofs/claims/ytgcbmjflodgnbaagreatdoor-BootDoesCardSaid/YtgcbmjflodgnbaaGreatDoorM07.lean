/- Logs: what Append's record leaves in its block, torn or not. Logs: what making a segment and dropping one leave, torn or not. Boot: what a page tells, what Open finds: plain laws. The document's flash: what reads or writes its fields alone. The document's flash: Program. The document's flash: Erase. -/
import Derived.Test.YtgcbmjflodgnbaaGreatDoorM06
import Derived.Test.YtgcbmjflodgnbaaGreatDoorM05
import Derived.IntWalk
namespace Go.Proofs.YtgcbmjflodgnbaaGreatDoor
set_option maxRecDepth 100000
set_option linter.unusedVariables false
open Go Go.RowKit

theorem blk_at (s : FS) (F x k : Nat) : (s.blk F x)[k]? = if k < 512 then s.b[512 * (F + x) + k]? else none := by
  unfold FS.blk; rw [List.getElem?_take, List.getElem?_drop]
theorem blk_len {s : FS} (hok : s.Ok) {F x : Nat} (h : F + x < s.n.length) : (s.blk F x).length = 512 := by
  have := hok.len
  unfold FS.blk; rw [List.length_take, List.length_drop]; omega
theorem getD_some {l : List UInt8} {k : Nat} {u : UInt8} (h : l[k]? = some u) : l.getD k 0 = u := by rw [List.getD_eq_getElem?_getD, h]; rfl
theorem no_hdr {s : FS} {F x p : Nat} (hp : p < 8) (h : NoHdr s.b (512 * (F + x) + 64 * p)) : hdrL (s.blk F x) p = false := by
  obtain ⟨u, v, h0, h3, hn⟩ := h
  have e0 : (s.blk F x)[64 * p]? = some u := by rw [blk_at, if_pos (by omega)]; exact h0
  have e3 : (s.blk F x)[64 * p + 3]? = some v := by rw [blk_at, if_pos (by omega), ← Nat.add_assoc]; exact h3
  unfold hdrL
  rw [getD_some e0, getD_some e3, Bool.and_eq_false_iff]
  exact hn.imp (fun h => by simpa using h) (fun h => by simpa using h)
def posL (a t : Nat) : Nat := if t < 60 then 64 * a + 4 + t else 64 * (a + 1 + (t - 60) / 63) + 1 + (t - 60) % 63
theorem body_get (S : List UInt8) (a : Nat) : ∀ m t, 1 ≤ m → 64 * (a + m) ≤ S.length → t < 60 + 63 * (m - 1) → (bodyL S a m)[t]? = S[posL a t]?
  | 0, t, h, _, _ => by omega
  | 1, t, _, hl, ht => by
    rw [bodyL, List.getElem?_take, if_pos (by omega), List.getElem?_drop]
    unfold posL; rw [if_pos (by omega)]
  | m + 2, t, _, hl, ht => by
    have hlen : (bodyL S a (m + 1)).length = 60 + 63 * m := by
      have : ∀ m, 64 * (a + (m + 1)) ≤ S.length → (bodyL S a (m + 1)).length = 60 + 63 * m := by
        intro m
        induction m with
        | zero => intro h; rw [bodyL, List.length_take, List.length_drop]; omega
        | succ m ih =>
          intro h
          show (bodyL S a (m + 1) ++ _).length = _
          rw [List.length_append, ih (by omega), List.length_take, List.length_drop]; omega
      exact this m (by omega)
    show (bodyL S a (m + 1) ++ _)[t]? = _
    by_cases h : t < 60 + 63 * m
    · rw [List.getElem?_append_left (by omega), body_get S a (m + 1) t (by omega) (by omega) (by omega)]
    · rw [List.getElem?_append_right (by omega), hlen, List.getElem?_take, if_pos (by omega), List.getElem?_drop]
      unfold posL; rw [if_neg (by omega)]
      have hq : (t - 60) / 63 = m := by omega
      congr 1; rw [hq]; omega
theorem pad_at (r : List UInt8) (t : Nat) (h : t < r.length) : (if t < 60 then padL r 0 (4 + t) else padL r (1 + (t - 60) / 63) (1 + (t - 60) % 63)) = r[t] := by
  split
  · rename_i ht
    unfold padL pageL; rw [if_pos rfl, List.getD_eq_getElem?_getD, show 4 + t = (3 + t) + 1 by omega, List.getElem?_cons_succ, List.getElem?_append_right (by rw [leList_length]; omega), leList_length, show 3 + t - 2 = t + 1 by omega, List.getElem?_cons_succ, List.getElem?_take, if_pos ht, List.getElem?_eq_getElem h]; rfl
  · rename_i ht
    unfold padL pageL; rw [if_neg (by omega), List.getD_eq_getElem?_getD, show 1 + (t - 60) % 63 = (t - 60) % 63 + 1 by omega, List.getElem?_cons_succ, List.getElem?_take, if_pos (by omega), List.getElem?_drop, show 60 + 63 * (1 + (t - 60) / 63 - 1) + (t - 60) % 63 = t by omega, List.getElem?_eq_getElem h]; rfl
theorem rec_of_pages (S : List UInt8) (a m : Nat) (r : List UInt8) (hr : r.length ≤ 400) (hm : m = pgs r.length) (ha : a + m ≤ 8) (hl : S.length = 512)
    (h : ∀ i j, i < m → j < 64 → ¬ (i = 0 ∧ j = 3) → S[64 * (a + i) + j]? = some (padL r i j)) (h3 : S[64 * a + 3]? = some 0) : RecAt S a m r := by
  have hp := pgs_pos hr
  rw [← hm] at hp
  have h0 : S[64 * a]? = some 1 := by
    have := h 0 0 (by omega) (by omega) (by omega)
    rw [Nat.add_zero, Nat.add_zero] at this
    rw [this]; unfold padL; rw [List.getD_eq_getElem?_getD, (pageL_h r).1]; rfl
  have hlen : lenL S a = r.length := by
    unfold lenL
    have e : (S.drop (64 * a + 1)).take 2 = leList 2 r.length := by
      apply List.ext_getElem?; intro k
      rw [List.getElem?_take]
      by_cases hk : k < 2
      · rw [if_pos hk, List.getElem?_drop]
        have := h 0 (1 + k) (by omega) (by omega) (by omega)
        rw [Nat.add_zero, ← Nat.add_assoc] at this
        rw [this]; unfold padL pageL
        rw [if_pos rfl, List.getD_eq_getElem?_getD, show 1 + k = k + 1 by omega, List.getElem?_cons_succ, List.getElem?_append_left (by rw [leList_length]; exact hk), List.getElem?_eq_getElem (by rw [leList_length]; exact hk)]; rfl
      · rw [if_neg hk, List.getElem?_eq_none (by rw [leList_length]; omega)]
    rw [e, leNat_leList]; omega
  refine ⟨?_, by rw [hlen]; exact hm, by omega, ha, fun k hk => ?_, ?_⟩
  · unfold hdrL; rw [getD_some h0, getD_some h3]; rfl
  · unfold goesL
    have := h (1 + k) 0 (by omega) (by omega) (by omega)
    rw [Nat.add_zero, ← Nat.add_assoc] at this
    rw [getD_some this]; unfold padL; rw [List.getD_eq_getElem?_getD, pageL_b0 r (1 + k) (by omega)]; rfl
  · rw [hlen]
    have hn : r.length ≤ 60 + 63 * (m - 1) := by
      rw [hm]; unfold pgs; rw [if_neg (by omega)]; split <;> omega
    apply List.ext_getElem?; intro t
    rw [List.getElem?_take]
    by_cases ht : t < r.length
    · rw [if_pos ht, body_get S a m t (by omega) (by omega) (by omega), List.getElem?_eq_getElem ht, ← pad_at r t ht]
      unfold posL
      split
      · have := h 0 (4 + t) (by omega) (by omega) (by omega)
        rw [Nat.add_zero, ← Nat.add_assoc] at this; exact this.symm
      · have := h (1 + (t - 60) / 63) (1 + (t - 60) % 63) (by omega) (by omega) (by omega)
        rw [← Nat.add_assoc, ← Nat.add_assoc] at this; exact this.symm
    · rw [if_neg ht, List.getElem?_eq_none (by omega)]
theorem cln_at {S : List UInt8} {k : Nat} (h : clnL S k = true) (hl : S.length = 512) (hk : k ≤ 7) : ∀ j, j < 64 → S[64 * (7 - k) + j]? = some 255 := fun j hj => by
  unfold clnL at h
  rw [List.all_eq_true] at h
  have hlt : 64 * (7 - k) + j < S.length := by omega
  rw [List.getElem?_eq_getElem hlt]
  have := h S[64 * (7 - k) + j] (List.mem_iff_getElem?.2 ⟨j, by rw [List.getElem?_take, if_pos hj, List.getElem?_drop, List.getElem?_eq_getElem hlt]⟩)
  rw [beq_iff_eq] at this; rw [this]
theorem not_cln {S : List UInt8} {k : Nat} {u : UInt8} (hu : S[64 * (7 - k)]? = some u) (h : u ≠ 255) : clnL S k = false := by
  unfold clnL
  rw [Bool.eq_false_iff]
  intro ha
  rw [List.all_eq_true] at ha
  have := ha u (List.mem_iff_getElem?.2 ⟨0, by rw [List.getElem?_take, if_pos (by omega), List.getElem?_drop, Nat.add_zero]; exact hu⟩)
  rw [beq_iff_eq] at this; exact h this
theorem cln_of {S : List UInt8} {k : Nat} (h : ∀ j, j < 64 → S[64 * (7 - k) + j]? = some 255) : clnL S k = true := by
  unfold clnL
  rw [List.all_eq_true]
  intro u hu
  obtain ⟨j, hj⟩ := List.mem_iff_getElem?.1 hu
  rw [List.getElem?_take] at hj
  split at hj
  · rename_i h64
    rw [List.getElem?_drop, h j h64] at hj; cases hj; rfl
  · cases hj
/-- What Append's record leaves. -/
structure PutOut (F : Nat) (x : Nat) (r : List UInt8) (rm : Nat) (s : FS) (l : LS) (R : FS × LS × Int) : Prop where
  ok : R.1.Ok
  n : R.1.n = s.n
  len : R.1.b.length = s.b.length
  out : ∀ k, (k < 512 * (F + x) + 64 ∨ 512 * (F + x) + 512 ≤ k) → R.1.b[k]? = s.b[k]?
  gd : Good (R.1.blk F x)
  res : (R.2.2 = 0 ∧ R.1.dead = false ∧ R.2.1 = l ∧ recN (R.1.blk F x) 7 1 = recN (s.blk F x) 7 1 ++ [r] ∧ runB (clnL (R.1.blk F x)) 7 = rm - pgs r.length) ∨
    (R.2.2 = 2 ∧ R.1.dead = true ∧ R.2.1 = l.told 2 ∧ (recN (R.1.blk F x) 7 1 = recN (s.blk F x) 7 1 ∨ recN (R.1.blk F x) 7 1 = recN (s.blk F x) 7 1 ++ [r]))
  still : s.Still → R.2.2 = 0 ∧ R.1.Still
theorem lput_out {s : FS} {l : LS} {F B : Nat} {r : List UInt8} (hd : s.dead = false) (hok : s.Ok) (hin : In s.n.length F B) (hx : l.newest.1 < B) (hr : r.length ≤ 400) (hrm : pgs r.length ≤ s.lroom F l) (hg : Good (s.blk F l.newest.1)) :
    PutOut F l.newest.1 r (s.lroom F l) s l (s.lput F B l r) := by
  obtain ⟨x, hxe⟩ : ∃ x, x = l.newest.1 := ⟨_, rfl⟩
  obtain ⟨rm, hrme⟩ : ∃ rm, rm = s.lroom F l := ⟨_, rfl⟩
  obtain ⟨m, hm⟩ : ∃ m, m = pgs r.length := ⟨_, rfl⟩
  have hput : s.lput F B l r = (let a := FS.lpages F B (512 * x + 64 * (8 - rm)) r m 0 s l; if a.2.2 ≠ 0 then a else a.1.lwrite F B a.2.1 (512 * x + 64 * (8 - rm) + 3) [0]) := by
    unfold FS.lput; rw [← hxe, ← hrme, ← hm]
  have hrun : runB (clnL (s.blk F x)) 7 = rm := by
    rw [hrme]; unfold FS.lroom; rw [hd, if_neg (by decide), ← hxe]
  rw [← hxe] at hx hg ⊢
  rw [← hrme, ← hm] at hrm
  rw [← hrme]
  have hp := pgs_pos hr
  rw [← hm] at hp
  have hhi := hin.hi
  have hFx : F + x < s.n.length := by omega
  have hSl := blk_len hok (F := F) (x := x) hFx
  have hrm7 : rm ≤ 7 := by rw [← hrun]; exact runB_le _ _
  have hcl : ∀ k, k < rm → clnL (s.blk F x) k = true := fun k hk => runB_true 7 _ k (by rw [hrun]; exact hk)
  obtain ⟨a, ha⟩ : ∃ a, a = 8 - rm := ⟨_, rfl⟩
  rw [← ha] at hput
  have hA : 512 * F + (512 * x + 64 * a) = 512 * (F + x) + 64 * a := by omega
  have hclp : ∀ p j, a ≤ p → p < 8 → j < 64 → s.b[512 * (F + x) + 64 * p + j]? = some 255 := fun p j h1 h2 h3 => by
    have := cln_at (hcl (7 - p) (by omega)) hSl (by omega) j h3
    rw [show 7 - (7 - p) = p by omega, blk_at, if_pos (by omega), ← Nat.add_assoc] at this
    exact this
  have hEr : Er s.b (512 * F + (512 * x + 64 * a) + 64 * 0) (64 * m) := fun k h1 h2 => by
    have := hclp ((k - 512 * (F + x)) / 64) ((k - 512 * (F + x)) % 64) (by omega) (by omega) (by omega)
    rwa [show 512 * (F + x) + 64 * ((k - 512 * (F + x)) / 64) + (k - 512 * (F + x)) % 64 = k by omega] at this
  have hCln : Cln (s.blk F x) a := fun p h1 h2 => getD_some (by rw [blk_at, if_pos (by omega)]; exact hclp p 0 h1 h2 (by omega))
  have PO := lpages_out F B (512 * x + 64 * a) r (by omega) m 0 s l hd hok hin (by omega) hEr
  rw [hput]
  dsimp only
  generalize FS.lpages F B (512 * x + 64 * a) r m 0 s l = P at PO ⊢
  obtain ⟨s1, l1, e1⟩ := P
  obtain ⟨ok1, n1, len1, out1, res1, st1⟩ := PO
  dsimp only at ok1 n1 len1 out1 res1 st1 ⊢
  have hout1 : ∀ k, (k < 512 * (F + x) + 64 * a ∨ 512 * (F + x) + 64 * (a + m) ≤ k) → s1.b[k]? = s.b[k]? := fun k hk => out1 k (by omega)
  have hagr1 : Agr (s.blk F x) (s1.blk F x) (64 * a) := fun k hk => by
    rw [blk_at, blk_at]; split
    · exact hout1 _ (by omega)
    · rfl
  rcases res1 with ⟨rfl, hd1, rfl, hpg⟩ | ⟨rfl, hd1, rfl, hno⟩
  · rw [if_neg (by decide)]
    have hA3 : 512 * F + (512 * x + 64 * a + 3) = 512 * (F + x) + 64 * a + 3 := by omega
    have hw := lw_one (s := s1) (F := F) (B := B) (at_ := 512 * x + 64 * a + 3) (l := [0]) hd1 ok1 (by rw [n1]; exact hin) (by simp) (by simp; omega) (by simp; omega)
    unfold FS.lwrite
    rw [hw]
    dsimp only
    obtain ⟨ok2, n2, len2⟩ := wr_ok ok1 (512 * F + (512 * x + 64 * a + 3)) [0]
    have hout2 : ∀ k, k ≠ 512 * (F + x) + 64 * a + 3 → (s1.wr (512 * F + (512 * x + 64 * a + 3)) [0]).b[k]? = s1.b[k]? := fun k hk => wr_out s1 _ _ k (by simp; omega)
    have h255 : s1.b[512 * (F + x) + 64 * a + 3]? = some 255 := by
      have := hpg 0 (by omega) 3 (by omega)
      rw [show 512 * F + (512 * x + 64 * a) + 64 * (0 + 0) + 3 = 512 * (F + x) + 64 * a + 3 by omega] at this
      rw [this]; unfold padL; rw [List.getD_eq_getElem?_getD, (pageL_h r).2]; rfl
    have hz : (s1.wr (512 * F + (512 * x + 64 * a + 3)) [0]).b[512 * (F + x) + 64 * a + 3]? = some (s1.wb 0 0) := by
      have := wr_in s1 (512 * F + (512 * x + 64 * a + 3)) [0] 0 0 rfl (by rw [Nat.add_zero, hA3]; exact h255)
      rw [← hA3]; exact this
    have hd2 : (s1.wr (512 * F + (512 * x + 64 * a + 3)) [0]).dead = s1.goes := wr_dead hd1 _ _
    have hst2 : s.Still → toldI s1.goes = 0 ∧ (s1.wr (512 * F + (512 * x + 64 * a + 3)) [0]).Still := fun h => by
      have h1 := (st1 h).2
      rw [goes_still h1, toldI_f]; exact ⟨rfl, wr_still h1 _ _⟩
    have hpage : ∀ i j, i < m → j < 64 → ¬ (i = 0 ∧ j = 3) → (s1.wr (512 * F + (512 * x + 64 * a + 3)) [0]).b[512 * (F + x) + (64 * (a + i) + j)]? = some (padL r i j) := fun i j hi hj hn => by
      rw [hout2 _ (by omega)]
      have := hpg i hi j hj
      rw [Nat.zero_add, show 512 * F + (512 * x + 64 * a) + 64 * i + j = 512 * (F + x) + (64 * (a + i) + j) by omega] at this
      exact this
    generalize s1.wr (512 * F + (512 * x + 64 * a + 3)) [0] = s2 at ok2 n2 len2 hout2 hz hd2 hst2 hpage ⊢
    have hS2l : (s2.blk F x).length = 512 := blk_len ok2 (by rw [n2, n1]; exact hFx)
    have hagr2 : Agr (s.blk F x) (s2.blk F x) (64 * a) := fun k hk => by
      rw [blk_at, blk_at]; split
      · rw [hout2 _ (by omega)]; exact hout1 _ (by omega)
      · rfl
    have hrest : ∀ p, a + m ≤ p → p < 8 → ∀ j, j < 64 → s2.b[512 * (F + x) + 64 * p + j]? = some 255 := fun p h1 h2 j hj => by
      rw [hout2 _ (by omega), hout1 _ (by omega)]; exact hclp p j (by omega) h2 hj
    have hresth : ∀ p, a + m ≤ p → p < 8 → hdrL (s2.blk F x) p = false := fun p h1 h2 => no_hdr h2 ⟨255, 255, by simpa using hrest p h1 h2 0 (by omega), hrest p h1 h2 3 (by omega), .inl (by decide)⟩
    have hout : ∀ k, (k < 512 * (F + x) + 64 ∨ 512 * (F + x) + 512 ≤ k) → s2.b[k]? = s.b[k]? := fun k hk => by
      rw [hout2 k (by omega), hout1 k (by omega)]
    have hmid : ∀ p, a < p → p < a + m → hdrL (s2.blk F x) p = false := fun p h1 h2 => by
      have h0 := hpage (p - a) 0 (by omega) (by omega) (by omega)
      have h3 := hpage (p - a) 3 (by omega) (by omega) (by omega)
      refine no_hdr (by omega) ⟨padL r (p - a) 0, padL r (p - a) 3, ?_, ?_, .inl ?_⟩
      · rw [← h0]; congr 1; omega
      · rw [← h3]; congr 1; omega
      · unfold padL; rw [List.getD_eq_getElem?_getD, pageL_b0 r (p - a) (by omega)]; decide
    by_cases hw0 : s1.wb 0 0 = 0
    · have hRA : RecAt (s2.blk F x) a m r := rec_of_pages _ a m r hr hm (by omega) hS2l (fun i j hi hj hn => by rw [blk_at, if_pos (by omega)]; exact hpage i j hi hj hn) (by rw [blk_at, if_pos (by omega), ← Nat.add_assoc, hz, hw0])
      obtain ⟨g2, c2⟩ := new_rec hg hCln (by omega) (by omega) hagr2 hRA hresth
      cases hgo : s1.goes with
      | false =>
        rw [toldI_f, told0]
        refine ⟨ok2, n2.trans n1, len2.trans len1, hout, g2, .inl ⟨rfl, hd2.trans hgo, rfl, c2, ?_⟩, fun h => ⟨rfl, (hst2 h).2⟩⟩
        rw [← hm]
        refine runB_spec 7 _ (rm - m) (by omega) (fun k hk => cln_of fun j hj => ?_) (.inr ?_)
        · rw [blk_at, if_pos (by omega), ← Nat.add_assoc]; exact hrest (7 - k) (by omega) (by omega) j hj
        · have h0 := hpage (m - 1) 0 (by omega) (by omega) (by omega)
          refine not_cln (u := padL r (m - 1) 0) (by rw [blk_at, if_pos (by omega), ← h0]; congr 1; omega) ?_
          unfold padL; rw [List.getD_eq_getElem?_getD]
          by_cases hm1 : m - 1 = 0
          · rw [hm1, (pageL_h r).1]; decide
          · rw [pageL_b0 r (m - 1) hm1]; decide
      | true =>
        rw [toldI_t]
        refine ⟨ok2, n2.trans n1, len2.trans len1, hout, g2, .inr ⟨rfl, hd2.trans hgo, rfl, .inr c2⟩, fun h => ?_⟩
        have := (hst2 h).1; rw [hgo, toldI_t] at this; cases this
    · have hgo : s1.goes = true := by
        cases hgo : s1.goes with
        | true => rfl
        | false => exact absurd (lwb_go hgo 0 0) hw0
      rw [hgo, toldI_t]
      have hah : hdrL (s2.blk F x) a = false := by
        have h0 := hpage 0 0 (by omega) (by omega) (by omega)
        exact no_hdr (by omega) ⟨padL r 0 0, s1.wb 0 0, by rw [← h0]; congr 1, hz, .inr hw0⟩
      obtain ⟨g2, c2⟩ := torn_recs hg hCln (by omega) (by omega) hagr2 (fun p h1 h2 => by
        rcases Nat.lt_or_ge p (a + m) with h | h
        · rcases Nat.eq_or_lt_of_le h1 with rfl | h'
          · exact hah
          · exact hmid p h' h
        · exact hresth p h h2)
      refine ⟨ok2, n2.trans n1, len2.trans len1, hout, g2, .inr ⟨rfl, hd2.trans hgo, rfl, .inl c2⟩, fun h => ?_⟩
      have := (hst2 h).1; rw [hgo, toldI_t] at this; cases this
  · rw [if_pos (by decide)]
    have hno1 : ∀ p, a ≤ p → p < 8 → hdrL (s1.blk F x) p = false := fun p h1 h2 => by
      rcases Nat.lt_or_ge p (a + m) with h | h
      · have := hno (p - a) (by omega)
        rw [Nat.zero_add, show 512 * F + (512 * x + 64 * a) + 64 * (p - a) = 512 * (F + x) + 64 * p by omega] at this
        exact no_hdr h2 this
      · have hz : ∀ j, j < 64 → s1.b[512 * (F + x) + 64 * p + j]? = some 255 := fun j hj => by rw [hout1 _ (by omega)]; exact hclp p j h1 h2 hj
        exact no_hdr h2 ⟨255, 255, by simpa using hz 0 (by omega), hz 3 (by omega), .inl (by decide)⟩
    obtain ⟨g2, c2⟩ := torn_recs hg hCln (by omega) (by omega) hagr1 hno1
    exact ⟨ok1, n1, len1, fun k hk => hout1 k (by omega), g2, .inr ⟨rfl, hd1, rfl, .inl c2⟩, fun h => absurd (st1 h).1 (by decide)⟩
end Go.Proofs.YtgcbmjflodgnbaaGreatDoor
namespace Go.Proofs.YtgcbmjflodgnbaaGreatDoor
set_option maxRecDepth 100000
set_option linter.unusedVariables false
open Go Go.RowKit

theorem pg_at (s : FS) (F b p k : Nat) : (s.pg F b p)[k]? = if k < 64 then s.b[512 * (F + b) + 64 * p + k]? else none := by
  unfold FS.pg; rw [List.getElem?_take, List.getElem?_drop]
theorem firstL_7 (n : Nat) : (firstL n)[7]? = some 0 := by
  unfold firstL begL
  rw [List.getElem?_append_right (by simp [leList_length]), show 7 - (83 :: leList 6 n).length = 0 by simp [leList_length]]; rfl
theorem numL_no {p : List UInt8} (h : p[7]? ≠ some 0) : numL p = 0 := by
  unfold numL
  dsimp only
  split
  · rfl
  · rename_i h1
    have h2 : firstL _ = p := Classical.byContradiction fun h' => h1 (.inr h')
    exact absurd (by rw [← h2]; exact firstL_7 _) h
theorem leNat_first (num : Nat) (h : num < 281474976710656) : leNat (((firstL num).drop 1).take 6) = num := by
  have e : ((firstL num).drop 1).take 6 = leList 6 num := by
    unfold firstL begL
    show (leList 6 num ++ _).take 6 = _
    rw [List.take_append_of_le_length (by rw [leList_length]; omega), List.take_of_length_le (by rw [leList_length]; omega)]
  rw [e, leNat_leList, show (256 : Nat) ^ 6 = 281474976710656 from rfl]; omega
theorem numL_first (num : Nat) (h1 : 1 ≤ num) (h : num < 281474976710656) : numL (firstL num) = num := by
  unfold numL
  dsimp only
  rw [leNat_first num h, if_neg (by simp; omega)]
theorem begL_len (num : Nat) : (begL num).length = 7 := by simp [begL, leList_length]
theorem firstL_at (num k : Nat) (h : k < 64) : (firstL num)[k]? = if k < 7 then (begL num)[k]? else if k = 7 then some 0 else some 255 := by
  unfold firstL
  by_cases h7 : k < 7
  · rw [if_pos h7, List.getElem?_append_left (by rw [begL_len]; exact h7)]
  · rw [if_neg h7, List.getElem?_append_right (by rw [begL_len]; omega), begL_len]
    by_cases hk : k = 7
    · subst hk; rfl
    · rw [if_neg hk, show k - 7 = (k - 8) + 1 by omega, List.getElem?_cons_succ, List.getElem?_replicate, if_pos (by omega)]
/-- A block is a segment without records. -/
structure Fresh (s : FS) (F b num : Nat) : Prop where
  pg : s.pg F b 0 = firstL num
  rest : ∀ k, 64 ≤ k → k < 512 → s.b[512 * (F + b) + k]? = some 255
theorem Fresh.recs {s : FS} {F b num : Nat} (h : Fresh s F b num) : Good (s.blk F b) ∧ recN (s.blk F b) 7 1 = [] ∧ runB (clnL (s.blk F b)) 7 = 7 := by
  have hh : ∀ p, 1 ≤ p → p < 8 → hdrL (s.blk F b) p = false := fun p h1 h2 => no_hdr h2 ⟨255, 255, h.rest _ (by omega) (by omega), by rw [Nat.add_assoc]; exact h.rest _ (by omega) (by omega), .inl (by decide)⟩
  refine ⟨fun p h1 h2 h3 => absurd h3 (by rw [hh p h1 h2]; decide), recN_none _ _ _ (fun i hi => hh _ (by omega) (by omega)), runB_spec 7 _ 7 (Nat.le_refl _) (fun k hk => cln_of fun j hj => ?_) (.inl rfl)⟩
  rw [blk_at, if_pos (by omega)]; exact h.rest _ (by omega) (by omega)
structure MkOut (F b num : Nat) (s : FS) (l : LS) (R : FS × LS × Int) : Prop where
  ok : R.1.Ok
  n : R.1.n.length = s.n.length
  len : R.1.b.length = s.b.length
  out : ∀ k, (k < 512 * (F + b) ∨ 512 * (F + b) + 512 ≤ k) → R.1.b[k]? = s.b[k]?
  res : (R.2.2 = 0 ∧ R.1.dead = false ∧ R.2.1 = { l with segs := l.segs ++ [(b, num)] } ∧ Fresh R.1 F b num) ∨
    (R.2.2 = 2 ∧ R.1.dead = true ∧ R.2.1 = l.told 2 ∧ (numL (R.1.pg F b 0) = 0 ∨ Fresh R.1 F b num))
  still : s.Still → R.2.2 = 0 ∧ R.1.Still
structure ClOut (F b : Nat) (s : FS) (l : LS) (R : FS × LS × Int) : Prop where
  ok : R.1.Ok
  n : R.1.n.length = s.n.length
  len : R.1.b.length = s.b.length
  out : ∀ k, (k < 512 * (F + b) ∨ 512 * (F + b) + 512 ≤ k) → R.1.b[k]? = s.b[k]?
  res : (R.2.2 = 0 ∧ R.1.dead = false ∧ R.2.1 = l ∧ Er R.1.b (512 * (F + b)) 512) ∨ (R.2.2 = 2 ∧ R.1.dead = true ∧ R.2.1 = l.told 2 ∧ numL (R.1.pg F b 0) = 0)
  still : s.Still → R.2.2 = 0 ∧ R.1.Still
theorem er_page (s : FS) (F b : Nat) : (s.er (F + b)).pg F b 0 = (s.pg F b 0).map (· ||| s.ex 0) := by
  apply List.ext_getElem?; intro k
  rw [List.getElem?_map, pg_at, pg_at]
  split
  · rename_i hk
    rw [er_at]
    congr 1; funext old
    rw [if_pos (by omega), show (512 * (F + b) + 64 * 0 + k - 512 * (F + b)) / 64 = 0 by omega]
  · rfl
theorem er_out (s : FS) (K k : Nat) (h : k < 512 * K ∨ 512 * K + 512 ≤ k) : (s.er K).b[k]? = s.b[k]? := by
  rw [er_at]
  cases s.b[k]? with
  | none => rfl
  | some u => rw [Option.map_some, if_neg (by omega)]
theorem er_full {s : FS} (hg : s.goes = false) {K : Nat} (hl : 512 * K + 512 ≤ s.b.length) : Er (s.er K).b (512 * K) 512 := fun k h1 h2 => by
  rw [er_at, List.getElem?_eq_getElem (by omega), Option.map_some, if_pos (by omega), ex_go hg, or255]
theorem er_still {s : FS} (h : s.Still) (K : Nat) : (s.er K).Still := ⟨(FS.Still.step h).1.armed, (FS.Still.step h).1.dead⟩
theorem lclean_out {s : FS} {l : LS} {F B b : Nat} (hd : s.dead = false) (hok : s.Ok) (hin : In s.n.length F B) (hb : b < B) (hn : numL (s.pg F b 0) = 0) : ClOut F b s l (s.lclean F B l b) := by
  have hhi := hin.hi
  have hlen := hok.len
  have hpv : pcleanV s F B ((512 * b : Nat) : Int) 512 = (((ffs ⟨(s.blk F b).toArray⟩ : Nat) : Int) == ((s.blk F b).length : Nat), 0) := by
    have hin2 : inB (B : Int) ((512 * b : Nat) : Int) 512 = true := by rw [inB_iff]; omega
    unfold pcleanV preadV
    rw [if_pos hin2, hd]
    simp only [Bool.false_eq_true, if_false, if_true]
    rw [show (512 * (F : Int) + ((512 * b : Nat) : Int)).toNat = 512 * (F + b) by omega]
    unfold FS.blk; rfl
  unfold FS.lclean FS.wclean
  rw [hpv]
  dsimp only
  rw [if_neg (by decide)]
  have hbl := blk_len hok (F := F) (x := b) (by omega)
  by_cases hc : (((ffs ⟨(s.blk F b).toArray⟩ : Nat) : Int) == ((s.blk F b).length : Nat)) = true
  · rw [if_pos hc]
    refine ⟨hok, rfl, rfl, fun _ _ => rfl, .inl ⟨rfl, hd, told0 _, fun k h1 h2 => ?_⟩, fun h => ⟨rfl, h⟩⟩
    have := ffs_lt (s.blk F b) (beq_iff_eq.1 hc) (k - 512 * (F + b)) (by omega)
    rw [blk_at, if_pos (by omega), show 512 * (F + b) + (k - 512 * (F + b)) = k by omega] at this
    exact this
  · rw [if_neg hc, perase_one hd hin hb]
    dsimp only
    obtain ⟨ok1, n1, len1⟩ := er_ok hok (F + b)
    cases hg : s.goes with
    | true =>
      rw [toldI_t]
      refine ⟨ok1, n1, len1, er_out s _, .inr ⟨rfl, (er_dead hd _).trans hg, rfl, ?_⟩, fun h => ?_⟩
      · rw [er_page]; exact numL_map _ _ hn
      · rw [goes_still h] at hg; cases hg
    | false =>
      rw [toldI_f]
      exact ⟨ok1, n1, len1, er_out s _, .inl ⟨rfl, (er_dead hd _).trans hg, told0 _, er_full hg (by omega)⟩, fun h => ⟨rfl, er_still h _⟩⟩
theorem lmakes_out {s : FS} {l : LS} {F B b num : Nat} (hd : s.dead = false) (hok : s.Ok) (hin : In s.n.length F B) (hb : b < B) (hn : numL (s.pg F b 0) = 0) : MkOut F b num s l (s.lmakes F B l b num) := by
  have CO := lclean_out (l := l) hd hok hin hb hn
  unfold FS.lmakes
  generalize s.lclean F B l b = c at CO ⊢
  obtain ⟨s1, l1, e1⟩ := c
  obtain ⟨ok1, n1, len1, out1, res1, st1⟩ := CO
  dsimp only at ok1 n1 len1 out1 res1 st1 ⊢
  rcases res1 with ⟨rfl, hd1, rfl, he1⟩ | ⟨rfl, hd1, rfl, hn1⟩
  · rw [if_neg (by decide)]
    have hin1 : In s1.n.length F B := by rw [n1]; exact hin
    have hw := lw_one (s := s1) (F := F) (B := B) (at_ := 512 * b) (l := begL num) hd1 ok1 hin1 (by simp [begL]) (by rw [begL_len]; omega) (by rw [begL_len]; omega)
    unfold FS.lwrite
    rw [hw]
    dsimp only
    have hA : 512 * F + 512 * b = 512 * (F + b) := by omega
    rw [hA]
    obtain ⟨ok2, n2, len2⟩ := wr_ok ok1 (512 * (F + b)) (begL num)
    have hout2 : ∀ k, (k < 512 * (F + b) ∨ 512 * (F + b) + 7 ≤ k) → (s1.wr (512 * (F + b)) (begL num)).b[k]? = s1.b[k]? := fun k hk => wr_out s1 _ _ k (by rw [begL_len]; omega)
    have hcell : ∀ j c, (begL num)[j]? = some c → (s1.wr (512 * (F + b)) (begL num)).b[512 * (F + b) + j]? = some (s1.wb j c) := fun j c hc => by
      have hj := (List.getElem?_eq_some_iff.1 hc).1
      rw [begL_len] at hj
      exact wr_in s1 _ _ j c hc (he1 _ (by omega) (by omega))
    have hd2 : (s1.wr (512 * (F + b)) (begL num)).dead = s1.goes := wr_dead hd1 _ _
    have hst2 : s1.Still → (s1.wr (512 * (F + b)) (begL num)).Still := fun h => wr_still h _ _
    generalize s1.wr (512 * (F + b)) (begL num) = s2 at ok2 n2 len2 hout2 hcell hd2 hst2 ⊢
    cases hg : s1.goes with
    | true =>
      rw [toldI_t, if_pos (by decide)]
      refine ⟨ok2, by rw [n2, n1], len2.trans len1, fun k hk => by rw [hout2 k (by omega), out1 k hk], .inr ⟨rfl, hd2.trans hg, rfl, .inl (numL_no ?_)⟩, fun h => ?_⟩
      · rw [pg_at, if_pos (by omega), hout2 _ (by omega), he1 _ (by omega) (by omega)]; simp
      · rw [goes_still (st1 h).2] at hg; cases hg
    | false =>
      rw [toldI_f, if_neg (by decide), told0]
      have hd2' : s2.dead = false := hd2.trans hg
      have hw2 := lw_one (s := s2) (F := F) (B := B) (at_ := 512 * b + 7) (l := [0]) hd2' ok2 (by rw [n2]; exact hin1) (by simp) (by simp; omega) (by simp; omega)
      rw [hw2]
      dsimp only
      have hA7 : 512 * F + (512 * b + 7) = 512 * (F + b) + 7 := by omega
      rw [hA7]
      obtain ⟨ok3, n3, len3⟩ := wr_ok ok2 (512 * (F + b) + 7) [0]
      have hout3 : ∀ k, k ≠ 512 * (F + b) + 7 → (s2.wr (512 * (F + b) + 7) [0]).b[k]? = s2.b[k]? := fun k hk => wr_out s2 _ _ k (by simp; omega)
      have hz : (s2.wr (512 * (F + b) + 7) [0]).b[512 * (F + b) + 7]? = some (s2.wb 0 0) := by
        have := wr_in s2 (512 * (F + b) + 7) [0] 0 0 rfl (by rw [Nat.add_zero, hout2 _ (by omega)]; exact he1 _ (by omega) (by omega))
        exact this
      have hd3 : (s2.wr (512 * (F + b) + 7) [0]).dead = s2.goes := wr_dead hd2' _ _
      have hst3 : s2.Still → (s2.wr (512 * (F + b) + 7) [0]).Still := fun h => wr_still h _ _
      generalize s2.wr (512 * (F + b) + 7) [0] = s3 at ok3 n3 len3 hout3 hz hd3 hst3 ⊢
      have hout : ∀ k, (k < 512 * (F + b) ∨ 512 * (F + b) + 512 ≤ k) → s3.b[k]? = s.b[k]? := fun k hk => by rw [hout3 k (by omega), hout2 k (by omega), out1 k hk]
      have hfresh : s2.wb 0 0 = 0 → Fresh s3 F b num := fun h0 => by
        refine ⟨?_, fun k h1 h2 => by rw [hout3 _ (by omega), hout2 _ (by omega)]; exact he1 _ (by omega) (by omega)⟩
        apply List.ext_getElem?; intro k
        rw [pg_at]
        split
        · rename_i hk
          rw [firstL_at num k hk, Nat.mul_zero, Nat.add_zero]
          split
          · rename_i h7
            rw [hout3 _ (by omega)]
            have hlt : k < (begL num).length := by rw [begL_len]; exact h7
            rw [hcell k _ (List.getElem?_eq_getElem hlt), lwb_go hg, List.getElem?_eq_getElem hlt]
          · split
            · rename_i h7; subst h7; rw [hz, h0]
            · rw [hout3 _ (by omega), hout2 _ (by omega)]; exact he1 _ (by omega) (by omega)
        · rename_i hk
          rw [List.getElem?_eq_none (by rw [firstL_len]; omega)]
      cases hg2 : s2.goes with
      | true =>
        rw [toldI_t, if_pos (by decide)]
        refine ⟨ok3, by rw [n3, n2, n1], len3.trans (len2.trans len1), hout, .inr ⟨rfl, hd3.trans hg2, rfl, ?_⟩, fun h => ?_⟩
        · by_cases h0 : s2.wb 0 0 = 0
          · exact .inr (hfresh h0)
          · refine .inl (numL_no ?_)
            rw [pg_at, if_pos (by omega), Nat.mul_zero, Nat.add_zero, hz]; simpa using h0
        · rw [goes_still (hst2 (st1 h).2)] at hg2; cases hg2
      | false =>
        rw [toldI_f, if_neg (by decide), told0]
        exact ⟨ok3, by rw [n3, n2, n1], len3.trans (len2.trans len1), hout, .inl ⟨rfl, hd3.trans hg2, rfl, hfresh (lwb_go hg2 0 0)⟩, fun h => ⟨rfl, hst3 (hst2 (st1 h).2)⟩⟩
  · rw [if_pos (by decide)]
    exact ⟨ok1, n1, len1, out1, .inr ⟨rfl, hd1, rfl, .inl hn1⟩, fun h => absurd (st1 h).1 (by decide)⟩
end Go.Proofs.YtgcbmjflodgnbaaGreatDoor
namespace Go.Proofs.YtgcbmjflodgnbaaGreatDoor
set_option maxRecDepth 100000
set_option linter.unusedVariables false
open Go Go.RowKit

theorem page_parts (a b c t : List UInt8) (x y z : UInt8) (ha : a.length = 6) (hb : b.length = 3) (hc : c.length = 3) :
    (((66 :: (a ++ x :: y :: z :: (b ++ c)) ++ t : List UInt8).drop 1).take 6 = a) ∧ (66 :: (a ++ x :: y :: z :: (b ++ c)) ++ t : List UInt8).getD 7 0 = x ∧
    (66 :: (a ++ x :: y :: z :: (b ++ c)) ++ t : List UInt8).getD 8 0 = y ∧ (66 :: (a ++ x :: y :: z :: (b ++ c)) ++ t : List UInt8).getD 9 0 = z ∧
    (((66 :: (a ++ x :: y :: z :: (b ++ c)) ++ t : List UInt8).drop 10).take 3 = b) ∧ (((66 :: (a ++ x :: y :: z :: (b ++ c)) ++ t : List UInt8).drop 13).take 3 = c) := by
  match a, ha with
  | [a0, a1, a2, a3, a4, a5], _ =>
    match b, hb with
    | [b0, b1, b2], _ =>
      match c, hc with
      | [c0, c1, c2], _ => exact ⟨rfl, rfl, rfl, rfl, rfl, rfl⟩
theorem pageB_63 (r : BR) (n : Nat) : (pageB r n)[63]? = some 0 := by
  unfold pageB; rw [List.getElem?_append_right (by rw [bodyB_len]; omega), bodyB_len]; rfl
theorem cnt_iff (p : List UInt8) : cntB p = true ↔ 1 ≤ numB p ∧ (readB p).May ∧ pageB (readB p) (numB p) = p := by
  unfold cntB; rw [Bool.and_eq_true, Bool.and_eq_true, decide_eq_true_iff, decide_eq_true_iff, BR.may_iff, and_assoc]
theorem cnt_no {p : List UInt8} (h : p[63]? ≠ some 0) : cntB p = false := by
  rw [← Bool.not_eq_true, cnt_iff]; rintro ⟨_, _, e⟩; exact h (by rw [← e]; exact pageB_63 _ _)
theorem u8_nat (x : Int) (h0 : 0 ≤ x) (h : x ≤ 255) : ((UInt8.ofNat x.toNat).toNat : Int) = x := by
  rw [UInt8.toNat_ofNat']; omega
theorem le3_nat (x : Int) (h0 : 0 ≤ x) (h : x ≤ 16777215) : ((leNat (leList 3 x.toNat) : Nat) : Int) = x := by
  rw [leNat_leList, show (256 : Nat) ^ 3 = 16777216 from rfl]; omega
theorem cnt_page {r : BR} {n : Nat} (hr : r.May) (h1 : 1 ≤ n) (hn : n < 281474976710656) : cntB (pageB r n) = true ∧ readB (pageB r n) = r ∧ numB (pageB r n) = n := by
  obtain ⟨e1, e2, e3, e4, e5, e6⟩ := page_parts (leList 6 n) (leList 3 r.s0.toNat) (leList 3 r.s1.toNat) (List.replicate 47 255 ++ [0]) (UInt8.ofNat r.slot.toNat) (if r.up then 1 else 0) (UInt8.ofNat r.count.toNat) (leList_length _ _) (leList_length _ _) (leList_length _ _)
  have hnum : numB (pageB r n) = n := by
    unfold numB pageB bodyB
    rw [e1, leNat_leList, show (256 : Nat) ^ 6 = 281474976710656 from rfl]; omega
  have hread : readB (pageB r n) = r := by
    unfold readB pageB bodyB
    rw [e2, e3, e4, e5, e6]
    obtain ⟨h1, h2, h3, h4⟩ := hr
    exact BR.ext' (u8_nat _ (by omega) (by omega)) (by show ((if r.up then (1 : UInt8) else 0) == 1) = r.up; cases r.up <;> rfl) (u8_nat _ (by omega) (by omega)) (le3_nat _ h3.1 h3.2) (le3_nat _ h4.1 h4.2)
  exact ⟨(cnt_iff _).2 ⟨by omega, by rw [hread]; exact hr, by rw [hread, hnum]⟩, hread, hnum⟩
theorem or_zero {c x : UInt8} (h : c ||| x = 0) : x = 0 := by
  apply UInt8.toBitVec_inj.1; apply BitVec.eq_of_getElem_eq; intro i hi
  have h3 := congrArg (fun y : UInt8 => y.toBitVec[i]) h
  simp only [UInt8.toBitVec_or, BitVec.getElem_or] at h3
  have h4 : (0 : UInt8).toBitVec[i] = false := by simp
  rw [h4] at h3 ⊢
  cases hb : x.toBitVec[i] with
  | false => rfl
  | true => rw [hb] at h3; simp at h3
/-- A page on which bits are set is what it was, or counts no more. -/
theorem cnt_map (p : List UInt8) (x : UInt8) : p.map (· ||| x) = p ∨ cntB (p.map (· ||| x)) = false := by
  by_cases hx : x = 0
  · subst hx; left; simp
  · right
    apply cnt_no
    rw [List.getElem?_map]
    cases p[63]? with
    | none => simp
    | some c => intro h; exact hx (or_zero (Option.some.inj h))
theorem pg_block (s : FS) (F b p : Nat) : s.pg F 0 (8 * b + p) = s.pg F b p := by
  unfold FS.pg; rw [show 512 * (F + 0) + 64 * (8 * b + p) = 512 * (F + b) + 64 * p by omega]
theorem pg_len {s : FS} (hok : s.Ok) {F b p : Nat} (h : F + b < s.n.length) (hp : p < 8) : (s.pg F b p).length = 64 := by
  unfold FS.pg; rw [List.length_take, List.length_drop, hok.len]; omega
theorem pg_same {s s' : FS} {F b p : Nat} (h : ∀ k, k < 64 → s'.b[512 * (F + b) + 64 * p + k]? = s.b[512 * (F + b) + 64 * p + k]?) : s'.pg F b p = s.pg F b p := by
  apply List.ext_getElem?; intro k
  rw [pg_at, pg_at]; split
  · rename_i hk; exact h k hk
  · rfl
theorem er_bpage (s : FS) (F b p : Nat) (hp : p < 8) : (s.er (F + b)).pg F b p = (s.pg F b p).map (· ||| s.ex p) := by
  apply List.ext_getElem?; intro k
  rw [List.getElem?_map, pg_at, pg_at]
  split
  · rename_i hk
    rw [er_at]
    congr 1; funext old
    rw [if_pos (by omega), show (512 * (F + b) + 64 * p + k - 512 * (F + b)) / 64 = p by omega]
  · rfl
theorem bcl_iff (s : FS) (F i : Nat) : s.bcl F i = true ↔ ∀ k u, k < 64 → s.b[512 * F + 64 * i + k]? = some u → u = 255 := by
  unfold FS.bcl
  rw [List.all_eq_true]
  constructor
  · intro h k u hk hu
    have h1 : (s.pg F 0 i)[k]? = some u := by rw [pg_at, if_pos hk]; exact hu
    exact beq_iff_eq.1 (h u (List.mem_of_getElem? h1))
  · intro h u hu
    obtain ⟨k, hk⟩ := List.getElem?_of_mem hu
    rw [pg_at] at hk
    split at hk
    · rename_i h64; exact beq_iff_eq.2 (h k u h64 hk)
    · cases hk
theorem bfree_spec (s : FS) (F b : Nat) : ∀ k, s.bfree F b k ≤ k ∧ (∀ i, s.bfree F b k ≤ i → i < k → s.bcl F (8 * b + i) = true) ∧ (∀ i, s.bfree F b k = i + 1 → s.bcl F (8 * b + i) = false)
  | 0 => ⟨Nat.le_refl _, fun i _ h => by omega, fun i h => by simp [FS.bfree] at h⟩
  | k + 1 => by
    obtain ⟨h1, h2, h3⟩ := bfree_spec s F b k
    rw [FS.bfree]
    by_cases hc : s.bcl F (8 * b + k) = true
    · rw [if_pos hc]
      refine ⟨by omega, fun i h4 h5 => ?_, h3⟩
      by_cases hi : i = k
      · subst hi; exact hc
      · exact h2 i h4 (by omega)
    · rw [if_neg hc]
      exact ⟨Nat.le_refl _, fun i h4 h5 => by omega, fun i hi => by rw [show i = k by omega]; simpa using hc⟩
theorem bfree_eq {s : FS} {F b m : Nat} (k : Nat) (hm : m ≤ k) (h1 : ∀ i, m ≤ i → i < k → s.bcl F (8 * b + i) = true) (h2 : ∀ i, m = i + 1 → s.bcl F (8 * b + i) = false) : s.bfree F b k = m := by
  obtain ⟨a1, a2, a3⟩ := bfree_spec s F b k
  rcases Nat.lt_trichotomy (s.bfree F b k) m with h | h | h
  · have := h2 (m - 1) (by omega)
    rw [a2 (m - 1) (by omega) (by omega)] at this; cases this
  · exact h
  · have := a3 (s.bfree F b k - 1) (by omega)
    rw [h1 _ (by omega) (by omega)] at this; cases this
/-- What always holds of a store's bytes: the record r with the number n stands in the block b, each other one has a lesser number. -/
structure BBy (F : Nat) (s : FS) (r : BR) (n b : Nat) : Prop where
  ok : s.Ok
  inn : In s.n.length F 2
  rm : r.May
  n1 : 1 ≤ n
  b2 : b < 2
  at_ : ∃ i, i < 8 ∧ cntB (s.pg F 0 (8 * b + i)) = true ∧ readB (s.pg F 0 (8 * b + i)) = r ∧ numB (s.pg F 0 (8 * b + i)) = n ∧
    ∀ j, j < 16 → j ≠ 8 * b + i → cntB (s.pg F 0 j) = true → numB (s.pg F 0 j) < n
theorem BBy.le {F : Nat} {s : FS} {r : BR} {n b j : Nat} (h : BBy F s r n b) (hj : j < 16) (hc : cntB (s.pg F 0 j) = true) : numB (s.pg F 0 j) ≤ n := by
  obtain ⟨i, h1, h2, h3, h4, h5⟩ := h.at_
  by_cases e : j = 8 * b + i
  · rw [e, h4]; exact Nat.le_refl _
  · exact Nat.le_of_lt (h5 j hj e hc)
theorem BBy.scan {F : Nat} {s : FS} {r : BR} {n b : Nat} (h : BBy F s r n b) : s.bscan F 16 = ⟨r, n, b, false⟩ := by
  obtain ⟨i, h1, h2, h3, h4, h5⟩ := h.at_
  have hb := h.b2
  have key : ∀ k, k ≤ 16 → (k ≤ 8 * b + i → (s.bscan F k).seq < n) ∧ (8 * b + i < k → s.bscan F k = ⟨r, n, b, false⟩) := by
    intro k
    induction k with
    | zero => intro _; exact ⟨fun _ => h.n1, fun h' => by omega⟩
    | succ k ih =>
      intro hk
      obtain ⟨ih1, ih2⟩ := ih (by omega)
      refine ⟨fun hle => ?_, fun hlt => ?_⟩
      · rw [FS.bscan]; split
        · rename_i hc; exact h5 k (by omega) (by omega) hc.1
        · exact ih1 (by omega)
      · by_cases e : k = 8 * b + i
        · rw [FS.bscan, e, if_pos ⟨h2, by rw [h4]; exact e ▸ ih1 (by omega)⟩, h3, h4, show (8 * b + i) / 8 = b by omega]
        · have e2 := ih2 (by omega)
          rw [FS.bscan, if_neg, e2]
          rintro ⟨hc, hl⟩
          rw [e2] at hl
          have := h.le (by omega) hc
          simp only at hl; omega
  exact (key 16 (Nat.le_refl _)).2 (by omega)
theorem BBy.open_ {F : Nat} {s : FS} {r : BR} {n b : Nat} (h : BBy F s r n b) (hd : s.dead = false) (hn : n ≤ 140737488355328) : s.bopen F = .ok ⟨r, n, b, false⟩ := by
  have h1 := h.n1
  unfold FS.bopen
  rw [hd, if_neg (by decide), h.scan, if_neg (by simp only; omega), if_neg (by simp only; omega)]
/-- What does not change the pages keeps it. -/
theorem BBy.same {F : Nat} {s s' : FS} {r : BR} {n b : Nat} (h : BBy F s r n b) (hok : s'.Ok) (hn : s'.n.length = s.n.length) (hb : s'.b = s.b) : BBy F s' r n b := by
  have e : ∀ i, s'.pg F 0 i = s.pg F 0 i := fun i => by unfold FS.pg; rw [hb]
  exact ⟨hok, by rw [hn]; exact h.inn, h.rm, h.n1, h.b2, by simpa only [e] using h.at_⟩
/-- Other pages changed to such as do not count. -/
theorem BBy.keep {F : Nat} {s s' : FS} {r : BR} {n b : Nat} (h : BBy F s r n b) (hok : s'.Ok) (hn : s'.n.length = s.n.length) (hp : ∀ j, j < 16 → s'.pg F 0 j = s.pg F 0 j ∨ (cntB (s'.pg F 0 j) = false ∧ (j / 8 ≠ b ∨ cntB (s.pg F 0 j) = false))) : BBy F s' r n b := by
  obtain ⟨i, h1, h2, h3, h4, h5⟩ := h.at_
  have hb := h.b2
  refine ⟨hok, by rw [hn]; exact h.inn, h.rm, h.n1, h.b2, i, h1, ?_⟩
  have e : s'.pg F 0 (8 * b + i) = s.pg F 0 (8 * b + i) := by
    rcases hp (8 * b + i) (by omega) with h' | ⟨_, h' | h'⟩
    · exact h'
    · omega
    · rw [h2] at h'; cases h'
  rw [e]
  refine ⟨h2, h3, h4, fun j hj hne hc => ?_⟩
  rcases hp j hj with h' | ⟨h', _⟩
  · rw [h'] at hc ⊢; exact h5 j hj hne hc
  · rw [h'] at hc; cases hc
/-- A new record comes, with the next number. -/
theorem BBy.new {F : Nat} {s s' : FS} {r r' : BR} {n b b' i : Nat} (h : BBy F s r n b) (hok : s'.Ok) (hn : s'.n.length = s.n.length) (hr : r'.May) (hb' : b' < 2) (hi : i < 8) (hnb : n + 1 < 281474976710656)
    (hp : ∀ j, j < 16 → j ≠ 8 * b' + i → s'.pg F 0 j = s.pg F 0 j ∨ cntB (s'.pg F 0 j) = false) (hnew : s'.pg F 0 (8 * b' + i) = pageB r' (n + 1)) : BBy F s' r' (n + 1) b' := by
  obtain ⟨c1, c2, c3⟩ := cnt_page hr (show 1 ≤ n + 1 by omega) hnb
  refine ⟨hok, by rw [hn]; exact h.inn, hr, by omega, hb', i, hi, by rw [hnew]; exact c1, by rw [hnew]; exact c2, by rw [hnew]; exact c3, fun j hj hne hc => ?_⟩
  rcases hp j hj hne with h' | h'
  · rw [h'] at hc ⊢; have := h.le hj hc; omega
  · rw [h'] at hc; cases hc
end Go.Proofs.YtgcbmjflodgnbaaGreatDoor
namespace Go.Proofs.YtgcbmjflodgnbaaGreatDoor
set_option maxRecDepth 100000
set_option linter.unusedVariables false
open Go Go.RowKit

set_option maxHeartbeats 1000000 in
theorem ron_any (p bb cb : Nat) (s : FS) (at_ n : Int) (w : World) (h : Fl 73 w p bb cb s) (hok : s.Ok) (ba : -9223372036854775808 ≤ at_ ∧ at_ ≤ 9223372036854775807) (bn : -9223372036854775808 ≤ n ∧ n ≤ 9223372036854775807) :
    Calls Tryz.prog 88 #[.pointer (some ⟨p, 0, none⟩), .int .i64 at_, .int .i64 n] w fun e w' => e = .returned (.bool (onB s.b.length at_ n)) ∧ w = w' := by
  obtain ⟨bcap, ccap, hb, hc, c0, c1, c2, c3, c4, c5, c6⟩ := h.cells
  have hlen := hok.len
  have hfew := hok.few
  have hl : (s.b.length : Int) ≤ 131072 := by omega
  clear c1 c2 c3 c4 c5 c6 hlen hfew hc hb
  generalize s.b.length = l at c0 hl ⊢
  by_cases h0 : 0 ≤ at_
  · have h0' : decide (0 ≤ at_) = true := by simpa using h0
    by_cases h1 : 0 ≤ n
    · have h1' : decide (0 ≤ n) = true := by simpa using h1
      by_cases h2 : at_ ≤ l
      · have h2' : decide (at_ ≤ (l : Int)) = true := by simpa using h2
        have E : Box (onB l at_ n = decide (n ≤ (l : Int) - at_)) := ⟨by unfold onB; rw [decide_eq_decide]; omega⟩
        go_enter Tryz.func88, Tryz.ntmps88
        go_wp2
        go_ret
        exact ⟨by rw [E.out]; rfl, rfl⟩
      · have h2' : decide (at_ ≤ (l : Int)) = false := by simpa using h2
        have E : Box (onB l at_ n = false) := ⟨by unfold onB; rw [decide_eq_false_iff_not]; omega⟩
        go_enter Tryz.func88, Tryz.ntmps88
        go_wp2
        go_ret
        exact ⟨by rw [E.out]; rfl, rfl⟩
    · have h1' : decide (0 ≤ n) = false := by simpa using h1
      have E : Box (onB l at_ n = false) := ⟨by unfold onB; rw [decide_eq_false_iff_not]; omega⟩
      go_enter Tryz.func88, Tryz.ntmps88
      go_wp2
      go_ret
      exact ⟨by rw [E.out]; rfl, rfl⟩
  · have h0' : decide (0 ≤ at_) = false := by simpa using h0
    have E : Box (onB l at_ n = false) := ⟨by unfold onB; rw [decide_eq_false_iff_not]; omega⟩
    go_enter Tryz.func88, Tryz.ntmps88
    go_wp2
    go_ret
    exact ⟨by rw [E.out]; rfl, rfl⟩

set_option maxHeartbeats 400000 in
theorem rrevive_any (p bb cb : Nat) (s : FS) (w : World) (h : Fl 73 w p bb cb s) :
    Calls Tryz.prog 29 #[.pointer (some ⟨p, 0, none⟩)] w fun e w' => e = .returned (.tuple #[]) ∧ Fl 73 w' p bb cb s.back ∧ Upd [p] w w' := by
  obtain ⟨bcap, ccap, hb, hc, c0, c1, c2, c3, c4, c5, c6⟩ := h.cells
  have f3 := h.free 3; have f6 := h.free 6
  have HF := Box.mk h
  clear c0 c1 c2 c4 c5 hb hc h
  go_enter Tryz.func29, Tryz.ntmps29
  go_wp2
  go_end0
  exact ⟨rfl, (HF.out.set6 false).set3 0, ((Upd.refl _ _).setCell (by simp) _).setCell (by simp) _⟩
set_option maxHeartbeats 1000000 in
theorem rarm_any (p bb cb : Nat) (s : FS) (n keep : Int) (mask : UInt8) (w : World) (h : Fl 73 w p bb cb s) (hk : -9223372036854775808 ≤ keep ∧ keep ≤ 9223372036854775807) :
    Calls Tryz.prog 28 #[.pointer (some ⟨p, 0, none⟩), .int .i64 n, .int .i64 keep, .int .u8 (mask.toNat : Int)] w fun e w' => e = .returned (.int .i64 (s.arm n keep mask).2) ∧ Fl 73 w' p bb cb (s.arm n keep mask).1 ∧ Upd [p] w w' := by
  obtain ⟨bcap, ccap, hb, hc, c0, c1, c2, c3, c4, c5, c6⟩ := h.cells
  have f3 := h.free 3; have f4 := h.free 4; have f5 := h.free 5
  have HF := Box.mk h
  clear c0 c1 c2 hb hc h
  by_cases hd : s.dead = true
  · have E : Box (s.arm n keep mask = (s, 2)) := ⟨by unfold FS.arm; rw [if_pos hd]⟩
    rw [hd] at c6; clear hd
    rw [E.out]
    go_enter Tryz.func28, Tryz.ntmps28
    go_wp2
    go_ret
    exact ⟨rfl, HF.out, Upd.refl _ _⟩
  · have hd' : s.dead = false := by simpa using hd
    by_cases hn : n < 0
    · have E : Box (s.arm n keep mask = (s, 1)) := ⟨by unfold FS.arm; rw [if_neg hd, if_pos hn]⟩
      rw [hd'] at c6; clear hd hd'
      rw [E.out]
      go_enter Tryz.func28, Tryz.ntmps28
      go_wp2
      go_ret
      exact ⟨rfl, HF.out, Upd.refl _ _⟩
    · have E : Box (s.arm n keep mask = ({ s with armed := n, keep := max 0 keep, mask := mask }, 0)) := ⟨by unfold FS.arm; rw [if_neg hd, if_neg hn]⟩
      rw [hd'] at c6; clear hd hd'
      rw [E.out]
      go_enter Tryz.func28, Tryz.ntmps28
      go_wp2
      · go_ret
        have hm : max 0 keep = 0 := by omega
        exact ⟨rfl, (((HF.out.set3 n).set4 0).set5 mask).to (by rw [hm]), (((Upd.refl _ _).setCell (by simp) _).setCell (by simp) _).setCell (by simp) _⟩
      · go_ret
        have hm : max 0 keep = keep := by omega
        exact ⟨rfl, (((HF.out.set3 n).set4 keep).set5 mask).to (by rw [hm]), (((Upd.refl _ _).setCell (by simp) _).setCell (by simp) _).setCell (by simp) _⟩
set_option maxHeartbeats 1000000 in
theorem rread_any (p bb cb : Nat) (s : FS) (at_ n : Int) (w : World) (h : Fl 73 w p bb cb s) (hok : s.Ok) (ba : -9223372036854775808 ≤ at_ ∧ at_ ≤ 9223372036854775807) (bn : -9223372036854775808 ≤ n ∧ n ≤ 9223372036854775807) :
    Calls Tryz.prog 72 #[.pointer (some ⟨p, 0, none⟩), .int .i64 at_, .int .i64 n] w fun e w' => e = .returned (if s.dead then .tuple #[.string ⟨#[]⟩, .int .i64 2] else if onB s.b.length at_ n then .tuple #[.string ⟨((s.b.drop at_.toNat).take n.toNat).toArray⟩, .int .i64 0] else .tuple #[.string ⟨#[]⟩, .int .i64 111]) ∧ w = w' := by
  have HF := Box.mk h
  obtain ⟨bcap, ccap, hb, hc, c0, c1, c2, c3, c4, c5, c6⟩ := h.cells
  have hby := Box.mk (fun j u hu => (h.byte j u hu).1)
  clear c1 c2 c3 c4 c5 hc h
  by_cases hd : s.dead = true
  · rw [if_pos hd]
    rw [hd] at c6; clear hd
    go_enter Tryz.func72, Tryz.ntmps72
    go_wp2
    go_ret2
    exact ⟨rfl, rfl⟩
  · rw [if_neg hd]
    have hd' : s.dead = false := by simpa using hd
    rw [hd'] at c6; clear hd hd'
    by_cases ho : onB s.b.length at_ n = true
    · rw [if_pos ho]
      have hon : 0 ≤ at_ ∧ 0 ≤ n ∧ at_ + n ≤ s.b.length := by unfold onB at ho; simpa using ho
      obtain ⟨A, rfl⟩ := Int.eq_ofNat_of_zero_le hon.1
      obtain ⟨N, rfl⟩ := Int.eq_ofNat_of_zero_le hon.2.1
      have hlb : (s.b.length : Int) ≤ 131072 := by have := hok.len; have := hok.few; omega
      have hln : ((s.b.drop A).take N).length = N := by simp; omega
      have hcv := run_bytes_at Tryz.prog w bb A (bcap - A) ((s.b.drop A).take N) 42 9 5 N hln Tryz.underlying42 Tryz.underlying5 Tryz.underlying9 (fun j u hu => by
        have hj : j < N := by have := (List.getElem?_eq_some_iff.1 hu).1; rw [hln] at this; exact this
        rw [List.getElem?_take, if_pos hj, List.getElem?_drop] at hu
        exact hby.out _ _ hu)
      have HO := Box.mk ho; clear ho hln hby
      have hbI : ((s.b.length : Nat) : Int) ≤ (bcap : Int) := by omega
      have hANI : (A : Int) + (N : Int) ≤ (bcap : Int) := by omega
      go_enter Tryz.func72, Tryz.ntmps72
      go_wp2_with fail
      refine (ron_any p bb cb s A N _ HF.out hok (by omega) (by omega)).mono ?_
      rintro e w1 ⟨rfl, rfl⟩
      rw [HO.out]
      have hcv2 : bcap = A → (convert 42 9 (.slice (some ⟨bb, 0, none⟩) N 0)).run Tryz.prog w = .ok (.string ⟨((s.b.drop A).take N).toArray⟩) w := fun e => by
        have hN : N = 0 := by omega
        subst hN
        have := run_bytes_at Tryz.prog w bb 0 0 [] 42 9 5 0 rfl Tryz.underlying42 Tryz.underlying5 Tryz.underlying9 (fun j u hu => by simp at hu)
        rw [this]; simp
      by_cases hcA : bcap = A
      · have hcv2 := hcv2 hcA
        go_wp2
        go_ret2
        exact ⟨rfl, rfl⟩
      · clear hcv2
        go_wp2
        go_ret2
        exact ⟨rfl, rfl⟩
    · rw [if_neg ho]
      have ho' : onB s.b.length at_ n = false := by simpa using ho
      have HO := Box.mk ho'; clear ho ho' hby
      go_enter Tryz.func72, Tryz.ntmps72
      go_wp2_with fail
      refine (ron_any p bb cb s at_ n _ HF.out hok ba bn).mono ?_
      rintro e w1 ⟨rfl, rfl⟩
      rw [HO.out]
      go_wp2
      go_ret2
      exact ⟨rfl, rfl⟩
set_option maxHeartbeats 1000000 in
theorem goes_any (p bb cb : Nat) (s : FS) (w : World) (h : Fl 73 w p bb cb s) (hok : s.Ok) (hd : s.dead = false) :
    Calls Tryz.prog 100 #[.pointer (some ⟨p, 0, none⟩)] w fun e w' => e = .returned (.bool s.goes) ∧ Fl 73 w' p bb cb s.step ∧ Upd [p] w w' := by
  obtain ⟨bcap, ccap, hb, hc, c0, c1, c2, c3, c4, c5, c6⟩ := h.cells
  have f2 := h.free 2; have f3 := h.free 3; have f6 := h.free 6
  have hkeep := hok.armed
  have HD := Box.mk hd
  rw [hd] at c6
  by_cases ha : s.armed = 0
  · have ha' : decide (0 < s.armed) = false := by simp; omega
    have HA := Box.mk ha; clear ha hd
    clear c0 c1 c4 c5
    go_enter Tryz.func100, Tryz.ntmps100
    go_wp2
    go_ret
    refine ⟨by simp [FS.goes, HA.out], (h.set2 _).to (by cases s; have := HA.out; simp_all [FS.step]), (Upd.refl _ _).setCell (by simp) _⟩
  · have ha' : decide (0 < s.armed) = true := by simp; omega
    have HA := Box.mk ha; clear ha hd
    clear c0 c1 c4 c5
    go_enter Tryz.func100, Tryz.ntmps100
    go_wp2
    go_ret
    refine ⟨?_, (((h.set2 _).set3 _).set6 _).to (by cases s; have := HA.out; simp_all [FS.step]; rfl), (((Upd.refl _ _).setCell (by simp) _).setCell (by simp) _).setCell (by simp) _⟩
    simp only [FS.goes, if_neg HA.out]
    rfl
end Go.Proofs.YtgcbmjflodgnbaaGreatDoor
namespace Go.Proofs.YtgcbmjflodgnbaaGreatDoor
set_option maxRecDepth 100000
set_option linter.unusedVariables false
open Go Go.RowKit

set_option maxRecDepth 100000 in
set_option maxHeartbeats 2000000 in
theorem rprog_loop (p bb cb A : Nat) (s : FS) (str : ByteArray) (w : World) (h : Fl 73 w p bb cb s) (hok : s.Ok) (hd : s.dead = false) (hl : A + str.size ≤ s.b.length) (hne : str.size ≠ 0) (hp : (A : Int) % 64 + str.size ≤ 64) :
    Calls Tryz.prog 91 #[.pointer (some ⟨p, 0, none⟩), .int .i64 A, .string str] w fun e w' => e = .returned (.int .i64 (toldI s.goes)) ∧ Fl 73 w' p bb cb { s.step with b := progBytes s.b A str.data.toList s.goes s.keep s.mask } ∧ Upd [p, bb] w w' := by
  obtain ⟨bcap, ccap, hb, hc, c0, c1, c2, c3, c4, c5, c6⟩ := h.cells
  have HD := Box.mk hd
  rw [hd] at c6
  have hb2 : (s.b.length : Int) ≤ 131072 := by have := hok.len; have := hok.few; omega
  have hon : onB s.b.length (A : Int) (str.size : Int) = true := by unfold onB; rw [decide_eq_true_iff]; omega
  have hz : ((str.size : Int) == 0) = false := by rw [beq_eq_false_iff_ne]; omega
  have hpg : ¬ (64 < (A : Int) % 64 + str.size) := by omega
  have HON := Box.mk hon; clear hon hd hp
  have HF := Box.mk h
  have e1 : Box (toldI true = 2) := ⟨by unfold toldI; rfl⟩
  have e2 : Box (toldI false = 0) := ⟨by unfold toldI; rfl⟩
  clear c1 c2 c3 c4 c5 hc h
  go_enter Tryz.func91, Tryz.ntmps91
  go_wp2_with fail
  refine (ron_any p bb cb s A str.size _ HF.out hok (by omega) (by omega)).mono ?_
  rintro e w1 ⟨rfl, rfl⟩
  rw [HON.out]
  go_wp2_with fail
  refine (goes_any p bb cb s _ HF.out hok HD.out).mono ?_
  rintro e w1 ⟨rfl, hf1, hu1⟩
  have hkeep := hok.keep
  obtain ⟨bcap1, ccap1, hb1, hc1, d0, d1, d2, d3, d4, d5, d6⟩ := hf1.cells
  have HF1 := Box.mk hf1; clear hf1
  have HU1 := Box.mk hu1; clear hu1
  have HNE := Box.mk hne; clear hne
  have HL := Box.mk hl
  clear c0 c6 d0 d1 d2 d3 d4 d5 d6 hb1 hc1 hb
  generalize hG : s.goes = G
  have HG := Box.mk hG; clear hG
  go_wp2_with fail
  go_loopw [8] (fun i wr => ∃ k : Nat, k ≤ str.size ∧ i = .int .i64 k ∧ Fl 73 wr p bb cb { s.step with b := progBytes s.b A (str.data.toList.take k) G s.keep s.mask } ∧ Upd [p, bb] w wr) (fun i _ => str.size - (intOf i).toNat)
  case atStart => exact ⟨0, by omega, rfl, HF1.out.to (by rw [List.take_zero, progBytes_nil]; rfl), HU1.out.mono (by simp)⟩
  case round =>
    clear HF1 HU1
    obtain ⟨k, hk, rfl, hf, hu⟩ := hrel
    obtain ⟨bcapr, ccapr, hbr, hcr, d0, d1, d2, d3, d4, d5, d6⟩ := hf.cells
    simp only [progBytes_length] at d0 hbr
    have hkp : s.step.keep = s.keep := rfl
    have hmk : s.step.mask = s.mask := rfl
    simp only [hkp, hmk] at d4 d5
    clear hkp hmk d1 d2 d3 d6 hcr
    have HU := Box.mk hu; clear hu
    have n1 : ¬ bb = p := fun e => hf.d1 e.symm
    have n2 : ¬ p = bb := hf.d1
    by_cases hlt : k < str.size
    · have hAk : A + k < s.b.length := by omega
      obtain ⟨old, ho⟩ : ∃ old, s.b[A + k]? = some old := ⟨_, List.getElem?_eq_getElem hAk⟩
      have hc : str.data.toList[k]? = some str[k] := by rw [List.getElem?_eq_getElem (by simpa using hlt)]; rfl
      have hob : (progBytes s.b A (str.data.toList.take k) G s.keep s.mask)[A + k]? = some old := by
        rw [progBytes_get _ _ _ _ _ _ _ (by left; simp; omega)]; exact ho
      obtain ⟨e1, e2⟩ := hf.byte (A + k) old hob
      have hst := progBytes_step s.b A str.data.toList G s.keep s.mask k str[k] old hc ho
      have HST := Box.mk hst; clear hst
      have HFR := Box.mk hf; clear hf
      have hset := fun (v : UInt8) (n : Int) hn => ((HFR.out.upd (S := []) (Upd.refl _ _).drew (by simp) (by simp) (by simp)).setb (A + k) (by simp only [progBytes_length]; exact hAk) v n hn)
      have HSET := Box.mk hset; clear hset ho hob hc
      have q1 := and_u8 old str[k]; have q2 := or_u8 str[k] s.mask; have q3 := and_u8 old (str[k] ||| s.mask)
      have hcv := str[k].toNat_lt; have hov := old.toNat_lt
      have hkI : (k : Int) < (str.size : Int) := by omega
      have hAkI : (A : Int) + (k : Int) < (s.b.length : Int) := by omega
      cases G
      · have w1 : IntKind.i64.wrap ((A : Int) + (k : Int)) = (A : Int) + (k : Int) := IntWalk.i64_in _ (by omega)
        have w2 : ((A : Int) + (k : Int)).toNat = A + k := by omega
        have w3 : 0 ≤ (A : Int) + (k : Int) := by omega
        go_wp2_with fail
        go_still_tail 14, (by kernel_rfl)
        change wpList _ _ _ _ _ wr.drew
        clear w1 w2 w3
        go_wp2
        refine ⟨⟨k + 1, by omega, by go_num, (HSET.out (old &&& str[k]) _ (by rw [UInt8.toNat_and])).to ?_, HU.out.drew.setCell (by simp) _⟩, by simp [intOf]; omega⟩
        rw [← HST.out]; simp [progByte]
      · by_cases hc1 : (k : Int) < s.keep
        · have hc1' : decide ((k : Int) < s.keep) = true := by simpa using hc1
          have hc2' : ((k : Int) == s.keep) = false := by rw [beq_eq_false_iff_ne]; omega
          have HC1 := Box.mk hc1
          have w1 : IntKind.i64.wrap ((A : Int) + (k : Int)) = (A : Int) + (k : Int) := IntWalk.i64_in _ (by omega)
          have w2 : ((A : Int) + (k : Int)).toNat = A + k := by omega
          have w3 : 0 ≤ (A : Int) + (k : Int) := by omega
          go_wp2_with fail
          go_still_tail 14, (by kernel_rfl)
          change wpList _ _ _ _ _ wr.drew
          clear w1 w2 w3
          go_wp2
          refine ⟨⟨k + 1, by omega, by go_num, (HSET.out (old &&& str[k]) _ (by rw [UInt8.toNat_and])).to ?_, HU.out.drew.setCell (by simp) _⟩, by simp [intOf]; omega⟩
          rw [← HST.out]; simp [progByte, HC1.out]
        · have hc1' : decide ((k : Int) < s.keep) = false := by simpa using hc1
          have HC1 := Box.mk hc1
          by_cases hc2 : (k : Int) = s.keep
          · have hc2' : ((k : Int) == s.keep) = true := by simpa using hc2
            have HC2 := Box.mk hc2; clear hc2
            have w1 : IntKind.i64.wrap ((A : Int) + (k : Int)) = (A : Int) + (k : Int) := IntWalk.i64_in _ (by omega)
            have w2 : ((A : Int) + (k : Int)).toNat = A + k := by omega
            have w3 : 0 ≤ (A : Int) + (k : Int) := by omega
            go_wp2_with fail
            go_still_tail 19, (by kernel_rfl)
            change wpList _ _ _ _ _ wr.drew
            clear w1 w2 w3
            go_wp2
            refine ⟨⟨k + 1, by omega, by go_num, (HSET.out (old &&& (str[k] ||| s.mask)) _ (by rw [← UInt8.toNat_or, and_u8])).to ?_, HU.out.drew.setCell (by simp) _⟩, by simp [intOf]; omega⟩
            rw [← HST.out]; simp only [progByte]; rw [if_neg (by simp; omega), if_pos HC2.out]
          · have hc2' : ((k : Int) == s.keep) = false := by rw [beq_eq_false_iff_ne]; exact hc2
            have HC2 : Box (s.keep < (k : Int)) := ⟨by omega⟩
            clear hc2
            go_wp2
            refine ⟨⟨k + 1, by omega, by go_num, HFR.out.to ?_, HU.out⟩, by simp [intOf]; omega⟩
            rw [progBytes_rest _ _ _ _ _ _ HC2.out, progBytes_rest _ _ _ _ _ _ (by have := HC2.out; omega : s.keep < ((k + 1 : Nat) : Int))]
    · have hk2 : k = str.size := by omega
      subst hk2
      have HFR := Box.mk hf; clear hf
      cases G
      all_goals
        go_wp2
        go_ret
        refine ⟨?_, HFR.out.to ?_, HU.out⟩
        · rw [HG.out]; first | (rw [e1.out]; rfl) | (rw [e2.out]; rfl)
        · rw [HG.out, List.take_of_length_le (by simp)]

set_option maxRecDepth 100000 in
set_option maxHeartbeats 2000000 in
/-- The document's Program. -/
theorem rprogram_any (p bb cb : Nat) (s : FS) (at_ : Int) (str : ByteArray) (w : World) (h : Fl 73 w p bb cb s) (hok : s.Ok) (ba : -9223372036854775808 ≤ at_ ∧ at_ ≤ 9223372036854775807) (hs : str.size ≤ 9223372036854775807) :
    Calls Tryz.prog 91 #[.pointer (some ⟨p, 0, none⟩), .int .i64 at_, .string str] w fun e w' => e = .returned (.int .i64 (s.program at_ str.data.toList).2) ∧ Fl 73 w' p bb cb (s.program at_ str.data.toList).1 ∧ Upd [p, bb] w w' := by
  have hlen : str.data.toList.length = str.size := by simp
  have HF := Box.mk h
  obtain ⟨bcap, ccap, hb, hc, c0, c1, c2, c3, c4, c5, c6⟩ := h.cells
  clear c0 c1 c2 c3 c4 c5 hb hc h
  by_cases hd : s.dead = true
  · have E : Box (s.program at_ str.data.toList = (s, 2)) := ⟨by unfold FS.program; rw [if_pos hd]⟩
    rw [hd] at c6; clear hd
    rw [E.out]
    go_enter Tryz.func91, Tryz.ntmps91
    go_wp2
    go_ret
    exact ⟨rfl, HF.out, Upd.refl _ _⟩
  · by_cases ho : onB s.b.length at_ str.size = true
    · by_cases hn : str.size = 0
      · have E : Box (s.program at_ str.data.toList = (s, 0)) := ⟨by
          unfold FS.program; rw [if_neg hd, hlen, if_neg (by rw [ho]; simp), if_pos (List.eq_nil_of_length_eq_zero (by rw [hlen, hn]))]⟩
        rw [E.out]
        have hd' : s.dead = false := by simpa using hd
        rw [hd'] at c6; clear hd hd'
        have hz : ((str.size : Int) == 0) = true := by rw [beq_iff_eq]; omega
        have HO := Box.mk ho; clear ho hlen hn
        go_enter Tryz.func91, Tryz.ntmps91
        go_wp2_with fail
        refine (ron_any p bb cb s at_ str.size _ HF.out hok ba (by omega)).mono ?_
        rintro e w1 ⟨rfl, rfl⟩
        rw [HO.out]
        go_wp2
        go_ret
        exact ⟨rfl, HF.out, Upd.refl _ _⟩
      · have hon : 0 ≤ at_ ∧ 0 ≤ (str.size : Int) ∧ at_ + str.size ≤ s.b.length := by unfold onB at ho; simpa using ho
        by_cases hp : at_ / 64 = (at_ + str.size - 1) / 64
        · obtain ⟨A, rfl⟩ := Int.eq_ofNat_of_zero_le hon.1
          have E : Box (s.program A str.data.toList = ({ s.step with b := progBytes s.b A str.data.toList s.goes s.keep s.mask }, toldI s.goes)) := ⟨by
            unfold FS.program; rw [if_neg hd, hlen, if_neg (by rw [ho]; simp), if_neg (fun e => hn (by rw [← hlen, e]; rfl)), if_neg (by simpa using hp)]; rfl⟩
          rw [E.out]
          exact rprog_loop p bb cb A s str w HF.out hok (by simpa using hd) (by omega) hn (by omega)
        · have E : Box (s.program at_ str.data.toList = (s, 112)) := ⟨by
            unfold FS.program; rw [if_neg hd, hlen, if_neg (by rw [ho]; simp), if_neg (fun e => hn (by rw [← hlen, e]; rfl)), if_pos hp]⟩
          rw [E.out]
          have hd' : s.dead = false := by simpa using hd
          rw [hd'] at c6; clear hd hd'
          have hlb : (s.b.length : Int) ≤ 131072 := by have := hok.len; have := hok.few; omega
          have hz : ((str.size : Int) == 0) = false := by rw [beq_eq_false_iff_ne]; omega
          have hpg : 64 < at_ % 64 + (str.size : Int) := by omega
          have h0 := hon.1
          have h1 : (str.size : Int) ≤ 131072 := by omega
          have HO := Box.mk ho
          clear ho hlen hn hp hon
          go_enter Tryz.func91, Tryz.ntmps91
          go_wp2_with fail
          refine (ron_any p bb cb s at_ str.size _ HF.out hok ba (by omega)).mono ?_
          rintro e w1 ⟨rfl, rfl⟩
          rw [HO.out]
          go_wp2
          go_ret
          exact ⟨rfl, HF.out, Upd.refl _ _⟩
    · have ho' : onB s.b.length at_ str.size = false := by simpa using ho
      have E : Box (s.program at_ str.data.toList = (s, 111)) := ⟨by unfold FS.program; rw [if_neg hd, hlen, if_pos ho']⟩
      rw [E.out]
      have hd' : s.dead = false := by simpa using hd
      rw [hd'] at c6; clear hd hd'
      have HO := Box.mk ho'; clear ho ho' hlen
      go_enter Tryz.func91, Tryz.ntmps91
      go_wp2_with fail
      refine (ron_any p bb cb s at_ str.size _ HF.out hok ba (by omega)).mono ?_
      rintro e w1 ⟨rfl, rfl⟩
      rw [HO.out]
      go_wp2
      go_ret
      exact ⟨rfl, HF.out, Upd.refl _ _⟩
end Go.Proofs.YtgcbmjflodgnbaaGreatDoor
namespace Go.Proofs.YtgcbmjflodgnbaaGreatDoor
set_option maxRecDepth 100000
set_option linter.unusedVariables false
open Go Go.RowKit

theorem eraseUpto_skip (b : List UInt8) (base m : Nat) (keep : Int) (mask : UInt8) (hp : keep < ((m / 64 : Nat) : Int)) :
    eraseUpto b base (m + 1) true keep mask = eraseUpto b base m true keep mask := by
  apply List.ext_getElem?; intro k
  simp only [eraseUpto, List.getElem?_mapIdx]
  congr 1; funext old
  by_cases hA : base ≤ k ∧ k < base + m
  · rw [if_pos hA, if_pos (by omega)]
  · rw [if_neg hA]
    split
    · rename_i hB
      obtain rfl : k = base + m := by omega
      rw [show base + m - base = m from by omega]
      simp only [eraseByte]; rw [if_neg (by simp; omega), if_neg (by omega)]
    · rfl

set_option maxRecDepth 100000 in
set_option maxHeartbeats 2000000 in
theorem rerase_loop (p bb cb K : Nat) (s : FS) (w : World) (h : Fl 73 w p bb cb s) (hok : s.Ok) (hd : s.dead = false) (hk : K < s.n.length) :
    Calls Tryz.prog 90 #[.pointer (some ⟨p, 0, none⟩), .int .i64 K] w fun e w' => e = .returned (.int .i64 (toldI s.goes)) ∧ Fl 73 w' p bb cb { s.step with n := s.bump K, b := eraseUpto s.b (512 * K) 512 s.goes s.keep s.mask } ∧ Upd [p, bb, cb] w w' := by
  obtain ⟨bcap, ccap, hb, hc, c0, c1, c2, c3, c4, c5, c6⟩ := h.cells
  have HD := Box.mk hd
  rw [hd] at c6
  have hfew := hok.few
  have hlen := Box.mk hok.len
  have HF := Box.mk h
  have hkI : (K : Int) < (s.n.length : Int) := by omega
  have t1 : Box (toldI true = 2) := ⟨by unfold toldI; rfl⟩
  have t2 : Box (toldI false = 0) := ⟨by unfold toldI; rfl⟩
  obtain ⟨old, ho⟩ : ∃ old, s.n[K]? = some old := ⟨_, List.getElem?_eq_getElem hk⟩
  obtain ⟨x1, x2⟩ := h.count K old ho
  have hset : Fl 73 (w.setCell ⟨cb, K, none⟩ (.int .i64 (wrap64 (old + 1)))) p bb cb { s with n := s.bump K } := (h.setn K hk (wrap64 (old + 1))).to (by
    unfold FS.bump; rw [List.getD_eq_getElem?_getD, ho]; rfl)
  have HS := Box.mk hset
  have HU0 := Box.mk ((Upd.refl [p, bb, cb] w).setCell (p := ⟨cb, K, none⟩) (by simp) (.int .i64 (wrap64 (old + 1))))
  have hok1 : ({ s with n := s.bump K } : FS).Ok := ⟨hok.armed, hok.keep, by simp only [FS.bump, List.length_set]; exact hok.len, by simp only [FS.bump, List.length_set]; exact hok.few⟩
  have hg1 : ({ s with n := s.bump K } : FS).goes = s.goes := rfl
  have HG1 := Box.mk hg1; have OK1 := Box.mk hok1
  clear c0 c2 c3 c4 c5 hc hb h hd hset hg1 hok1 ho
  go_enter Tryz.func90, Tryz.ntmps90
  go_wp2_with fail
  refine (goes_any p bb cb _ _ HS.out OK1.out HD.out).mono ?_
  rintro e w1 ⟨rfl, hf1, hu1⟩
  rw [HG1.out]
  have hkeep := hok.keep
  have HF1 : Box (Fl 73 w1 p bb cb { s.step with n := s.bump K }) := ⟨hf1.to rfl⟩
  have HU := Box.mk (HU0.out.trans (hu1.mono (T := [p, bb, cb]) (by simp)))
  clear hf1 hu1 c1 c6 x1 x2
  generalize hG : s.goes = G
  have HG := Box.mk hG; clear hG
  go_wp2_with fail
  go_loopw [6] (fun i wr => ∃ m : Nat, m ≤ 512 ∧ i = .int .i64 m ∧ Fl 73 wr p bb cb { s.step with n := s.bump K, b := eraseUpto s.b (512 * K) m G s.keep s.mask } ∧ Upd [p, bb, cb] w wr) (fun i _ => 512 - (intOf i).toNat)
  case atStart => exact ⟨0, by omega, rfl, HF1.out.to (by rw [eraseUpto_zero]; rfl), HU.out⟩
  case round =>
    clear HS HU HF1 HU0
    obtain ⟨m, hm, rfl, hf, hu⟩ := hrel
    obtain ⟨bcapr, ccapr, hbr, hcr, d0, d1, d2, d3, d4, d5, d6⟩ := hf.cells
    have hkp : s.step.keep = s.keep := rfl
    have hmk : s.step.mask = s.mask := rfl
    simp only [hkp, hmk, eraseUpto_length] at d0 d4 d5
    clear hkp hmk d1 d2 d3 d6 hcr hbr
    have HU := Box.mk hu; clear hu
    have n1 : ¬ bb = p := fun e => hf.d1 e.symm
    have n2 : ¬ p = bb := hf.d1
    by_cases hlt : m < 512
    · have hin : 512 * K + m < s.b.length := by have := hlen.out; omega
      obtain ⟨old, ho⟩ : ∃ old, s.b[512 * K + m]? = some old := ⟨_, List.getElem?_eq_getElem hin⟩
      have hob : (eraseUpto s.b (512 * K) m G s.keep s.mask)[512 * K + m]? = some old := by
        rw [eraseUpto_get _ _ _ _ _ _ _ (Nat.le_refl _)]; exact ho
      obtain ⟨e1, e2⟩ := hf.byte (512 * K + m) old hob
      have HST := Box.mk (eraseUpto_step s.b (512 * K) m G s.keep s.mask old ho)
      have HFR := Box.mk hf; clear hf
      have HSET := Box.mk (fun (v : UInt8) (n : Int) hn => (HFR.out.setb (512 * K + m) (by simp only [eraseUpto_length]; exact hin) v n hn))
      have HSETD := Box.mk (fun (v : UInt8) (n : Int) hn => ((HFR.out.upd (S := []) (Upd.refl _ _).drew (by simp) (by simp) (by simp)).setb (512 * K + m) (by simp only [eraseUpto_length]; exact hin) v n hn))
      clear ho hob
      have hov := old.toNat_lt
      have q := or_u8 old s.mask
      have hI : 512 * (K : Int) + (m : Int) < (s.b.length : Int) := by omega
      have H255 : Box ((255 : Int) = ((255 : UInt8).toNat : Int)) := ⟨rfl⟩
      cases G
      · go_wp2
        refine ⟨⟨m + 1, by omega, by go_num, (HSET.out 255 _ H255.out).to ?_, HU.out.setCell (by simp) _⟩, by simp [intOf]; omega⟩
        rw [← HST.out]; simp [eraseByte]
      · by_cases hc1 : (m : Int) / 64 < s.keep
        · have hc1' : decide ((m : Int) / 64 < s.keep) = true := by simpa using hc1
          have hc2' : ((m : Int) / 64 == s.keep) = false := by rw [beq_eq_false_iff_ne]; omega
          have HC1 := Box.mk hc1
          go_wp2
          refine ⟨⟨m + 1, by omega, by go_num, (HSET.out 255 _ H255.out).to ?_, HU.out.setCell (by simp) _⟩, by simp [intOf]; omega⟩
          rw [← HST.out]; have := HC1.out; simp only [eraseByte]; rw [if_pos (Or.inr (by omega))]
        · have hc1' : decide ((m : Int) / 64 < s.keep) = false := by simpa using hc1
          have HC1 := Box.mk hc1
          by_cases hc2 : (m : Int) / 64 = s.keep
          · have hc2' : ((m : Int) / 64 == s.keep) = true := by simpa using hc2
            have HC2 := Box.mk hc2; clear hc2
            have w0 : IntKind.i64.wrap (512 * (K : Int)) = 512 * (K : Int) := IntWalk.i64_in _ (by omega)
            have w1 : IntKind.i64.wrap (512 * (K : Int) + (m : Int)) = 512 * (K : Int) + (m : Int) := IntWalk.i64_in _ (by omega)
            have w2 : (512 * (K : Int) + (m : Int)).toNat = 512 * K + m := by omega
            have w3 : 0 ≤ 512 * (K : Int) + (m : Int) := by omega
            go_wp2_with fail
            go_still_tail 16, (by kernel_rfl)
            change wpList _ _ _ _ _ wr.drew
            clear w0 w1 w2 w3
            go_wp2
            refine ⟨⟨m + 1, by omega, by go_num, (HSETD.out (old ||| s.mask) _ (by first | rfl | exact or_u8 _ _ | (rw [UInt8.toNat_or]))).to ?_, HU.out.drew.setCell (by simp) _⟩, by simp [intOf]; omega⟩
            rw [← HST.out]; have := HC2.out; simp only [eraseByte]; rw [if_neg (by simp; omega), if_pos (by omega)]
          · have hc2' : ((m : Int) / 64 == s.keep) = false := by rw [beq_eq_false_iff_ne]; exact hc2
            have HC2 : Box (s.keep < (m : Int) / 64) := ⟨by omega⟩
            clear hc2
            go_wp2
            refine ⟨⟨m + 1, by omega, by go_num, HFR.out.to ?_, HU.out⟩, by simp [intOf]; omega⟩
            rw [eraseUpto_skip _ _ _ _ _ (by have := HC2.out; omega)]
    · have hk2 : m = 512 := by omega
      subst hk2
      have HFR := Box.mk hf; clear hf
      cases G
      all_goals
        go_wp2
        go_ret
        refine ⟨?_, HFR.out.to ?_, HU.out⟩
        · rw [HG.out]; first | (rw [t1.out]; rfl) | (rw [t2.out]; rfl)
        · rw [HG.out]

set_option maxHeartbeats 1000000 in
/-- The document's Erase. -/
theorem rerase_any (p bb cb : Nat) (s : FS) (block : Int) (w : World) (h : Fl 73 w p bb cb s) (hok : s.Ok) :
    Calls Tryz.prog 90 #[.pointer (some ⟨p, 0, none⟩), .int .i64 block] w fun e w' => e = .returned (.int .i64 (s.erase block).2) ∧ Fl 73 w' p bb cb (s.erase block).1 ∧ Upd [p, bb, cb] w w' := by
  have HF := Box.mk h
  obtain ⟨bcap, ccap, hb, hc, c0, c1, c2, c3, c4, c5, c6⟩ := h.cells
  clear c0 c2 c3 c4 c5 hb hc h
  by_cases hd : s.dead = true
  · have E : Box (s.erase block = (s, 2)) := ⟨by unfold FS.erase; rw [if_pos hd]⟩
    rw [hd] at c6; clear hd c1
    rw [E.out]
    go_enter Tryz.func90, Tryz.ntmps90
    go_wp2
    go_ret
    exact ⟨rfl, HF.out, Upd.refl _ _⟩
  · have hd' : s.dead = false := by simpa using hd
    by_cases hb : 0 ≤ block ∧ block < s.n.length
    · obtain ⟨K, rfl⟩ := Int.eq_ofNat_of_zero_le hb.1
      have E : Box (s.erase K = ({ s.step with n := s.bump K, b := eraseUpto s.b (512 * K) 512 s.goes s.keep s.mask }, toldI s.goes)) := ⟨by
        unfold FS.erase; rw [if_neg hd, if_neg (by unfold blkB; rw [decide_eq_false_iff_not]; omega)]; rfl⟩
      rw [E.out]
      exact rerase_loop p bb cb K s w HF.out hok hd' (by omega)
    · have E : Box (s.erase block = (s, 111)) := ⟨by unfold FS.erase; rw [if_neg hd, if_pos (by unfold blkB; rw [decide_eq_false_iff_not]; exact hb)]⟩
      rw [E.out]
      rw [hd'] at c6; clear hd hd'
      by_cases h0 : block < 0
      · have h0' : decide (block < 0) = true := by simpa using h0
        clear hb
        go_enter Tryz.func90, Tryz.ntmps90
        go_wp2
        go_ret
        exact ⟨rfl, HF.out, Upd.refl _ _⟩
      · have h0' : decide (block < 0) = false := by simpa using h0
        have h1' : decide ((s.n.length : Int) ≤ block) = true := by rw [decide_eq_true_iff]; omega
        clear hb h0
        go_enter Tryz.func90, Tryz.ntmps90
        go_wp2
        go_ret
        exact ⟨rfl, HF.out, Upd.refl _ _⟩
end Go.Proofs.YtgcbmjflodgnbaaGreatDoor
