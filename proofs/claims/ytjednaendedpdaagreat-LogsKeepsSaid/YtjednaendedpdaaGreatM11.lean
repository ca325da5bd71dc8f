/- Logs: the invariant behind a drop, Open, Records, Format. Logs: slices.Clone, slices.Delete of segments; drop. Logs: drop, DropOldest, DropNewest, Dead. Logs: Segs: a range over a function. Logs: record. Logs: Records. -/
import Derived.Test.YtjednaendedpdaaGreatM07
import Derived.Test.YtjednaendedpdaaGreatM08
import Derived.Test.YtjednaendedpdaaGreatM10
import Derived.Lib.SliceRun
import Derived.RangeFuncBox
import Derived.RangeFuncLeaves
import Derived.RangeFuncNested
import Derived.RangeFuncBound
import Derived.RangeFuncCalls
import Derived.Shelf.Abstract
import Derived.OwnWalkIn
import Derived.TacticsInMore
import Derived.LoopNIn
import Derived.LoopIn
import Derived.Maps.AppendAt
namespace Go.Proofs.YtjednaendedpdaaGreat
set_option maxRecDepth 100000
set_option linter.unusedVariables false
open Go Go.RowKit

/-- A segment at an end is dropped. -/
theorem LInv.drop {F B : Nat} {s : FS} {l : LS} (h : LInv F B s l) (i : Nat) (hi : i = 0 ∨ i + 1 = l.segs.length) (hl : l.segs.length ≠ 1) (R : FS × LS × Int) (hR : R = s.ldrop F B l i) :
    (s.Still → R.2.2 = 0 ∧ R.1.Still) ∧
    ((R.2.2 = 0 ∧ R.2.1.segs = l.segs.eraseIdx i ∧ LInv F B R.1 R.2.1 ∧ R.1.lall F (l.segs.eraseIdx i) = s.lall F (l.segs.eraseIdx i)) ∨
     (R.2.2 = 2 ∧ R.1.dead = true ∧ ∃ segs', LBy F B R.1 segs' ∧ R.1.lall F segs' = s.lall F segs' ∧ (segs' = l.segs ∨ segs' = l.segs.eraseIdx i))) := by
  obtain ⟨b0, n0, m, h1, h2, h3, h4, h5⟩ := h.by_.ch
  have hlen : l.segs.length = m := by rw [h5, chainL_len]
  obtain ⟨m, rfl⟩ : ∃ k, m = k + 2 := ⟨m - 2, by omega⟩
  have him : i < m + 2 := by omega
  have hx : l.segs.getD i (0, 0) = ((b0 + i) % B, n0 + i) := by rw [h5, List.getD_eq_getElem?_getD, chainL_at _ _ _ _ _ him]; rfl
  have hxB : (b0 + i) % B < B := Nat.mod_lt _ (by omega)
  unfold FS.ldrop at hR
  rw [if_neg hl, h.live, if_neg (by decide), hx, perase_one h.alive h.by_.inn hxB] at hR
  dsimp only at hR
  obtain ⟨ok1, n1, len1⟩ := er_ok h.by_.ok (F + (b0 + i) % B)
  have hin1 : In (s.er (F + (b0 + i) % B)).n.length F B := by rw [n1]; exact h.by_.inn
  have hout := er_out s (F + (b0 + i) % B)
  have hpg := er_page s F ((b0 + i) % B)
  have hdd := er_dead h.alive (F + (b0 + i) % B)
  have hmem : ((b0 + i) % B, n0 + i) ∈ l.segs := by rw [h5]; exact chainL_in him
  -- what is left
  have hch : ∃ b1 n1, b1 < B ∧ 1 ≤ n1 ∧ l.segs.eraseIdx i = chainL B b1 n1 (m + 1) := by
    rcases hi with rfl | hi
    · exact ⟨(b0 + 1) % B, n0 + 1, Nat.mod_lt _ (by omega), by omega, by rw [h5]; exact chainL_tail _ _ _ _ (by omega)⟩
    · have : i = m + 1 := by omega
      subst this
      exact ⟨b0, n0, h1, h2, by rw [h5]; exact chainL_init _ _ _ _⟩
  have hsub : ∀ x ∈ l.segs.eraseIdx i, x ∈ l.segs ∧ x.1 ≠ (b0 + i) % B := fun x hx => by
    refine ⟨List.mem_of_mem_eraseIdx hx, fun e => ?_⟩
    rw [List.mem_eraseIdx_iff_getElem?] at hx
    obtain ⟨j, hj, hj2⟩ := hx
    have hjl := (List.getElem?_eq_some_iff.1 hj2).1
    rw [hlen] at hjl
    rw [h5, chainL_at _ _ _ _ _ hjl] at hj2
    cases hj2
    exact hj (mod_ne (by omega) (by omega) e)
  have hrest : ∀ c, c < B → (∀ x ∈ l.segs.eraseIdx i, x.1 ≠ c) → c ≠ (b0 + i) % B → ∀ x ∈ l.segs, x.1 ≠ c := fun c _ hx hc x hm e => by
    by_cases hxe : x = ((b0 + i) % B, n0 + i)
    · rw [hxe] at e; exact hc e.symm
    · refine hx x ?_ e
      rw [List.mem_eraseIdx_iff_getElem?]
      obtain ⟨j, hj, hj2⟩ := List.mem_iff_getElem.1 hm
      refine ⟨j, fun hji => ?_, by rw [List.getElem?_eq_getElem hj, hj2]⟩
      subst hji
      apply hxe
      have := List.getElem?_eq_getElem hj
      rw [hj2] at this
      rw [h5, chainL_at _ _ _ _ _ him] at this
      exact (Option.some.inj this).symm
  have hfar : ∀ c, c ≠ (b0 + i) % B → (s.er (F + (b0 + i) % B)).blk F c = s.blk F c ∧ (s.er (F + (b0 + i) % B)).pg F c 0 = s.pg F c 0 := fun c hc => blk_far hout hc
  have hgone : numL ((s.er (F + (b0 + i) % B)).pg F ((b0 + i) % B) 0) = 0 → LBy F B (s.er (F + (b0 + i) % B)) (l.segs.eraseIdx i) ∧ (s.er (F + (b0 + i) % B)).lall F (l.segs.eraseIdx i) = s.lall F (l.segs.eraseIdx i) := fun h0 => by
    obtain ⟨b1, n1', q1, q2, q3⟩ := hch
    refine ⟨⟨ok1, hin1, ⟨b1, n1', m + 1, q1, q2, by omega, by omega, q3⟩, fun x hx => ?_, fun c hc hx => ?_, fun x hx => ?_⟩, lall_congr fun x hx => (hfar _ (hsub x hx).2).1⟩
    · rw [(hfar _ (hsub x hx).2).2]; exact h.by_.hd x (hsub x hx).1
    · by_cases hcb : c = (b0 + i) % B
      · rw [hcb]; exact h0
      · rw [(hfar c hcb).2]; exact h.by_.fr c hc (hrest c hc hx hcb)
    · rw [(hfar _ (hsub x hx).2).1]; exact h.by_.gd x (hsub x hx).1
  have hsame : (∀ pg, s.ex pg = 0) → LBy F B (s.er (F + (b0 + i) % B)) l.segs ∧ (s.er (F + (b0 + i) % B)).lall F l.segs = s.lall F l.segs := fun h0 => by
    have hb : ∀ k, (s.er (F + (b0 + i) % B)).b[k]? = s.b[k]? := fun k => by
      rw [er_at]
      cases s.b[k]? with
      | none => rfl
      | some u => rw [Option.map_some, h0]; split <;> simp
    have hbk : ∀ c, (s.er (F + (b0 + i) % B)).blk F c = s.blk F c := fun c => blk_congr fun k _ => hb _
    have hpk : ∀ c, (s.er (F + (b0 + i) % B)).pg F c 0 = s.pg F c 0 := fun c => pg_congr fun k _ => hb _
    exact ⟨⟨ok1, hin1, ⟨b0, n0, m + 2, h1, h2, h3, h4, h5⟩, fun x hx => by rw [hpk]; exact h.by_.hd x hx, fun c hc hx => by rw [hpk]; exact h.by_.fr c hc hx, fun x hx => by rw [hbk]; exact h.by_.gd x hx⟩, lall_congr fun x _ => hbk _⟩
  cases hg : s.goes with
  | true =>
    rw [hg, toldI_t, if_pos (by decide)] at hR
    subst hR
    refine ⟨fun hs => absurd hg (by rw [goes_still hs]; decide), .inr ⟨rfl, hdd.trans hg, ?_⟩⟩
    by_cases h0 : s.ex 0 = 0
    · obtain ⟨q1, q2⟩ := hsame (ex_zero h.by_.ok h0)
      exact ⟨_, q1, q2, .inl rfl⟩
    · obtain ⟨q1, q2⟩ := hgone (by rw [hpg]; exact numL_or _ _ h0)
      exact ⟨_, q1, q2, .inr rfl⟩
  | false =>
    rw [hg, toldI_f, if_neg (by decide)] at hR
    subst hR
    obtain ⟨q1, q2⟩ := hgone (by rw [hpg]; exact numL_or _ _ (by rw [ex_go hg]; decide))
    refine ⟨fun hs => ⟨rfl, er_still hs _⟩, .inl ⟨rfl, rfl, ⟨q1, hdd.trans hg, ?_⟩, q2⟩⟩
    show (l.told 0).dead = false
    rw [told0]; exact h.live
theorem nwst_spec (nums : List Nat) : ∀ k, (∀ j, j < k → nums.getD j 0 ≤ nums.getD (nwst nums k) 0) ∧ (0 < k → nwst nums k < k)
  | 0 => ⟨fun j hj => by omega, fun h => by omega⟩
  | k + 1 => by
    obtain ⟨h1, h2⟩ := nwst_spec nums k
    rw [nwst]
    by_cases h : nums.getD k 0 > nums.getD (nwst nums k) 0
    · rw [if_pos h]
      refine ⟨fun j hj => ?_, fun _ => by omega⟩
      rcases Nat.lt_succ_iff_lt_or_eq.1 hj with h' | rfl
      · have := h1 j h'; omega
      · omega
    · rw [if_neg h]
      refine ⟨fun j hj => ?_, fun _ => ?_⟩
      · rcases Nat.lt_succ_iff_lt_or_eq.1 hj with h' | rfl
        · exact h1 j h'
        · omega
      · rcases Nat.eq_zero_or_pos k with rfl | hk
        · simp [nwst]
        · have := h2 hk; omega
theorem nums_at (s : FS) (F B b : Nat) (h : b < B) : (s.nums F B).getD b 0 = numL (s.pg F b 0) := by
  unfold FS.nums; rw [List.getD_eq_getElem?_getD, List.getElem?_map, List.getElem?_range h]; rfl
/-- What is opened is what was there. -/
theorem LBy.open_ {F B : Nat} {s : FS} {segs : List (Nat × Nat)} (h : LBy F B s segs) (hB : 4 ≤ B) (hd : s.dead = false) (hmax : ∀ x ∈ segs, x.2 ≤ 140737488355328) : s.lopen F B = .ok segs := by
  obtain ⟨b0, n0, m, h1, h2, h3, h4, h5⟩ := h.ch
  obtain ⟨m, rfl⟩ : ∃ k, m = k + 1 := ⟨m - 1, by omega⟩
  have hin : ∀ i, i < m + 1 → (s.nums F B).getD ((b0 + i) % B) 0 = n0 + i := fun i hi => by
    rw [nums_at _ _ _ _ (Nat.mod_lt _ (by omega))]
    exact h.hd ((b0 + i) % B, n0 + i) (by rw [h5]; exact chainL_in hi)
  have hcase : ∀ b, b < B → (∃ i, i < m + 1 ∧ b = (b0 + i) % B) ∨ (s.nums F B).getD b 0 = 0 := fun b hb => by
    by_cases hx : ∀ x ∈ segs, x.1 ≠ b
    · exact .inr (by rw [nums_at _ _ _ _ hb]; exact h.fr b hb hx)
    · simp only [Classical.not_forall, Classical.not_not] at hx
      obtain ⟨x, hx, e⟩ := hx
      rw [h5] at hx
      obtain ⟨i, hi, rfl⟩ := chainL_mem hx
      exact .inl ⟨i, hi, e.symm⟩
  have hlen : (s.nums F B).length = B := by simp [FS.nums]
  have hmx := hmax ((b0 + m) % B, n0 + m) (by rw [h5]; exact chainL_in (by omega))
  dsimp only at hmx
  unfold FS.lopen
  rw [if_neg (by omega), hd, if_neg (by decide)]
  dsimp only
  generalize s.nums F B = nums at hin hcase hlen ⊢
  obtain ⟨w1, w2⟩ := nwst_spec nums B
  have hnw : nwst nums B = (b0 + m) % B := by
    have ha := w1 ((b0 + m) % B) (Nat.mod_lt _ (by omega))
    rw [hin m (by omega)] at ha
    rcases hcase (nwst nums B) (w2 (by omega)) with ⟨i, hi, e⟩ | e
    · rw [e, hin i hi] at ha
      rw [e]; congr 1; omega
    · omega
  have hmost : nums.getD ((b0 + m) % B) 0 = n0 + m := hin m (by omega)
  have hback : ∀ k, k ≤ m → ((b0 + m) % B + B - k) % B = (b0 + (m - k)) % B := fun k hk => by
    rw [show (b0 + m) % B + B - k = (b0 + m) % B + (B - k) by omega, Nat.mod_add_mod, show b0 + m + (B - k) = b0 + (m - k) + B by omega, Nat.add_mod_right]
  have hT : runB (backP nums ((b0 + m) % B)) B = m + 1 := by
    refine runB_spec B _ (m + 1) h4 (fun j hj => ?_) ?_
    · unfold backP
      rw [hmost, hlen, hback j (by omega), hin (m - j) (by omega), Bool.and_eq_true, decide_eq_true_iff, decide_eq_true_iff]
      omega
    · by_cases hmB : m + 1 = B
      · exact .inl hmB
      · refine .inr ?_
        unfold backP
        rw [hmost, hlen, Bool.and_eq_false_iff, decide_eq_false_iff_not, decide_eq_false_iff_not]
        by_cases hn : n0 = 1
        · left; omega
        · right
          rcases hcase (((b0 + m) % B + B - (m + 1)) % B) (Nat.mod_lt _ (by omega)) with ⟨i, hi, e⟩ | e
          · exfalso
            have e2 : ((b0 + m) % B + B - (m + 1)) % B = (b0 + (B - 1)) % B := by
              rw [show (b0 + m) % B + B - (m + 1) = (b0 + m) % B + (B - (m + 1)) by omega, Nat.mod_add_mod, show b0 + m + (B - (m + 1)) = b0 + (B - 1) by omega]
            rw [e2] at e
            have := mod_ne (by omega) (by omega) e
            omega
          · rw [e]; omega
  have hs : segsOf nums ((b0 + m) % B) = segs := by
    unfold segsOf
    rw [hlen, hT, hmost, h5]
    apply List.ext_getElem?; intro i
    by_cases hi : i < m + 1
    · rw [chainL_at _ _ _ _ _ hi, List.getElem?_reverse (by simpa using hi)]
      simp only [List.length_map, List.length_range]
      rw [List.getElem?_map, List.getElem?_range (by omega), Option.map_some, hback _ (by omega), show m - (m + 1 - 1 - i) = i by omega, show n0 + m - (m + 1 - 1 - i) = n0 + i by omega]
    · rw [List.getElem?_eq_none (by simp; omega), List.getElem?_eq_none (by rw [chainL_len]; omega)]
  rw [hnw, hmost, if_neg (by omega), hs]
/-- A segment's records. -/
theorem LInv.recs {F B : Nat} {s : FS} {l : LS} (h : LInv F B s l) (x : Nat × Nat) (hx : x ∈ l.segs) : s.lrecs F l x.2 = .ok (recN (s.blk F x.1) 7 1) := by
  obtain ⟨b0, n0, m, h1, h2, h3, h4, h5⟩ := h.by_.ch
  have hf : l.segs.find? (fun y => (y.2 : Int) == (x.2 : Int)) = some x := by
    have hsome : (l.segs.find? (fun y => (y.2 : Int) == (x.2 : Int))).isSome = true := by
      rw [List.find?_isSome]; exact ⟨x, hx, by simp⟩
    obtain ⟨y, hy⟩ := Option.isSome_iff_exists.1 hsome
    have hym := List.mem_of_find?_eq_some hy
    have hyp := List.find?_some hy
    rw [hy]
    rw [h5] at hx hym
    obtain ⟨i, _, rfl⟩ := chainL_mem hx
    obtain ⟨j, _, rfl⟩ := chainL_mem hym
    have : j = i := by
      rw [beq_iff_eq] at hyp; dsimp only at hyp; omega
    rw [this]
  unfold FS.lrecs
  rw [hf]
  dsimp only
  rw [h.live, h.alive, Bool.or_self, if_neg (by decide), recsL_good (h.by_.gd x hx)]
theorem lclean_er {s : FS} {l : LS} {F B b : Nat} (hd : s.dead = false) (hok : s.Ok) (hin : In s.n.length F B) (hb : b < B) (he : Er s.b (512 * (F + b)) 512) : s.lclean F B l b = (s, l, 0) := by
  have hhi := hin.hi
  have hlen := hok.len
  have hpv : pcleanV s F B ((512 * b : Nat) : Int) 512 = (((ffs ⟨(s.blk F b).toArray⟩ : Nat) : Int) == ((s.blk F b).length : Nat), 0) := by
    have hin2 : inB (B : Int) ((512 * b : Nat) : Int) 512 = true := by rw [inB_iff]; omega
    unfold pcleanV preadV
    rw [if_pos hin2, hd]
    simp only [Bool.false_eq_true, if_false, if_true]
    rw [show (512 * (F : Int) + ((512 * b : Nat) : Int)).toNat = 512 * (F + b) by omega]
    unfold FS.blk; rfl
  have hbl := blk_len hok (F := F) (x := b) (by omega)
  have hf : (((ffs ⟨(s.blk F b).toArray⟩ : Nat) : Int) == ((s.blk F b).length : Nat)) = true := by
    rw [beq_iff_eq, ffs_all _ fun k hk => by rw [blk_at, if_pos (by omega)]; exact he _ (by omega) (by omega)]
  unfold FS.lclean FS.wclean
  rw [hpv, hf]
  dsimp only
  rw [if_neg (by decide), if_pos rfl, told0]
/-- A log on a clean flash. -/
theorem lformat_inv {B : Nat} (hB : 4 ≤ B) (hB2 : B ≤ 12) : ∃ s1, (bfs (B + 1)).lformat 1 B = (s1, ⟨[(0, 1)], false⟩, 0) ∧ s1.Still ∧ LInv 1 B s1 ⟨[(0, 1)], false⟩ ∧ s1.lall 1 [(0, 1)] = [] ∧ s1.lroom 1 ⟨[(0, 1)], false⟩ = 7 := by
  have hok := bfs_ok (n := B + 1) (by omega)
  have hst := bfs_still (B + 1)
  have hin : In (bfs (B + 1)).n.length (1 : Nat) (B : Nat) := by rw [bfs_n]; exact ⟨by omega, by omega, by omega, by omega⟩
  have hat := fun k h => bfs_at (B + 1) k h
  generalize bfs (B + 1) = s at hok hst hin hat
  have hcl : ∀ k, k ≤ B → FS.lcleans s (1 : Nat) (B : Nat) ⟨[], false⟩ k = (s, ⟨[], false⟩, 0) := by
    intro k
    induction k with
    | zero => intro _; rfl
    | succ k ih =>
      intro hk
      rw [FS.lcleans, ih (by omega), if_neg (fun h => h rfl)]
      exact lclean_er hst.dead hok hin (by omega) (fun j h1 h2 => hat j (by omega))
  have hnum0 : ∀ b, b < B → numL (s.pg 1 b 0) = 0 := fun b hb => numL_no (by rw [pg_at, if_pos (by omega), hat _ (by omega)]; simp)
  have MO := lmakes_out (s := s) (l := ⟨[], false⟩) (F := 1) (B := B) (b := 0) (num := 1) hst.dead hok hin (by omega) (hnum0 0 (by omega))
  unfold FS.lformat
  rw [if_neg (by omega), hcl B (Nat.le_refl _)]
  dsimp only
  rw [if_neg (by decide)]
  generalize s.lmakes (1 : Nat) (B : Nat) ⟨[], false⟩ 0 1 = R at MO ⊢
  obtain ⟨s1, l1, e1⟩ := R
  obtain ⟨ok1, n1, len1, out1, res1, st1⟩ := MO
  dsimp only at ok1 n1 len1 out1 res1 st1
  obtain ⟨he, hst1⟩ := st1 hst
  rcases res1 with ⟨_, hd1, hl1, hf⟩ | ⟨h2, _⟩
  · obtain ⟨f1, f2, f3⟩ := hf.recs
    subst he
    subst hl1
    refine ⟨s1, rfl, hst1, ⟨⟨ok1, by rw [n1]; exact hin, ⟨0, 1, 1, by omega, Nat.le_refl _, Nat.le_refl _, by omega, ?_⟩, fun x hx => ?_, fun b hb hx => ?_, fun x hx => ?_⟩, hd1, rfl⟩, ?_, ?_⟩
    · show [(0, 1)] = [((0 + 0) % B, 1 + 0)]
      rw [Nat.zero_add, Nat.zero_mod]
    · simp at hx; subst hx; rw [hf.pg]; exact numL_first 1 (Nat.le_refl _) (by omega)
    · have hb0 : b ≠ 0 := fun e => hx (0, 1) (by simp) e.symm
      rw [(blk_far out1 hb0).2]; exact hnum0 b hb
    · simp at hx; subst hx; exact f1
    · unfold FS.lall; simp [f2]
    · unfold FS.lroom LS.newest
      rw [hd1, if_neg (by decide)]; exact f3
  · rw [he] at h2; cases h2
/-- The segment behind the newest one. -/
def LS.next (l : LS) (B : Nat) : Nat × Nat := ((l.newest.1 + 1) % B, l.newest.2 + 1)
/-- What Append does. -/
structure AppOut (F B : Nat) (s : FS) (l : LS) (r : List UInt8) (spare : Int) (R : FS × LS × Int) : Prop where
  neg : spare < 0 → R = (s, l, 1)
  long : 0 ≤ spare → 400 < r.length → R = (s, l, 141)
  full : 0 ≤ spare → r.length ≤ 400 → s.lroom F l < pgs r.length → ((B - l.segs.length : Nat) : Int) ≤ spare → R = (s, l, 142)
  goes : 0 ≤ spare → r.length ≤ 400 → ¬ (s.lroom F l < pgs r.length ∧ ((B - l.segs.length : Nat) : Int) ≤ spare) → (s.Still → R.2.2 = 0 ∧ R.1.Still) ∧
    ((R.2.2 = 0 ∧ LInv F B R.1 R.2.1 ∧ R.1.lall F R.2.1.segs = s.lall F l.segs ++ [r] ∧ R.1.lroom F R.2.1 = (if s.lroom F l < pgs r.length then 7 else s.lroom F l) - pgs r.length ∧
        R.2.1.segs = (if s.lroom F l < pgs r.length then l.segs ++ [l.next B] else l.segs) ∧ (s.lroom F l < pgs r.length → l.segs.length < B ∧ ∀ x ∈ l.segs, R.1.blk F x.1 = s.blk F x.1)) ∨
     (R.2.2 = 2 ∧ R.1.dead = true ∧ ∃ segs', LBy F B R.1 segs' ∧ (R.1.lall F segs' = s.lall F l.segs ∨ R.1.lall F segs' = s.lall F l.segs ++ [r]) ∧ (segs' = l.segs ∨ segs' = l.segs ++ [l.next B])))
theorem LInv.append {F B : Nat} {s : FS} {l : LS} (h : LInv F B s l) (hnum : l.newest.2 + 1 < 281474976710656) (r : List UInt8) (spare : Int) : AppOut F B s l r spare (s.lappend F B l r spare) := by
  refine ⟨fun h0 => ?_, fun h0 h1 => ?_, fun h0 h1 h2 h3 => ?_, fun h0 h1 h2 => ?_⟩
  · unfold FS.lappend; rw [if_pos h0]
  · unfold FS.lappend; rw [if_neg (by omega), if_pos h1]
  · unfold FS.lappend; rw [if_neg (by omega), if_neg (by omega), h.live, if_neg (by decide), h.alive, if_neg (by decide), if_pos h2, if_pos h3]
  · have e : s.lappend F B l r spare = if pgs r.length > s.lroom F l then (if (s.lmakes F B l ((l.newest.1 + 1) % B) (l.newest.2 + 1)).2.2 ≠ 0 then s.lmakes F B l ((l.newest.1 + 1) % B) (l.newest.2 + 1) else (s.lmakes F B l ((l.newest.1 + 1) % B) (l.newest.2 + 1)).1.lput F B (s.lmakes F B l ((l.newest.1 + 1) % B) (l.newest.2 + 1)).2.1 r) else s.lput F B l r := by
      unfold FS.lappend
      rw [if_neg (by omega), if_neg (by omega), h.live, if_neg (by decide), h.alive, if_neg (by decide)]
      by_cases hp : pgs r.length > s.lroom F l
      · rw [if_pos hp, if_pos hp, if_neg (fun h3 => h2 ⟨hp, h3⟩)]
      · rw [if_neg hp, if_neg hp]
    rw [e]
    clear e
    by_cases hp : s.lroom F l < pgs r.length
    · rw [if_pos hp, if_pos hp, if_pos hp]
      have hfew : l.segs.length < B := by
        have := h.by_.lok.few
        have h3 : ¬ ((B - l.segs.length : Nat) : Int) ≤ spare := fun h3 => h2 ⟨hp, h3⟩
        omega
      obtain ⟨k1, k2, k3⟩ := h.mk_ hfew hnum _ rfl
      generalize s.lmakes F B l ((l.newest.1 + 1) % B) (l.newest.2 + 1) = M at k1 k2 k3 ⊢
      rcases k3 with ⟨a, b, c, d, f⟩ | ⟨a, b, c⟩
      · rw [if_neg (by rw [a]; simp)]
        have hnw : M.2.1.newest = l.next B := by
          unfold LS.newest
          rw [b, List.length_append, List.length_singleton, Nat.add_sub_cancel, List.getD_eq_getElem?_getD, List.getElem?_append_right (Nat.le_refl _), Nat.sub_self]; rfl
        have hpp := pgs_pos h1
        obtain ⟨p1, p2, p3, p4⟩ := c.put h1 (by rw [f]; omega)
        refine ⟨fun hs => p2 (k1 hs).2, ?_⟩
        rcases p4 with ⟨q1, q2, q3, q4, q5⟩ | ⟨q1, q2, q3⟩
        · refine .inl ⟨q1, ⟨by rw [q3]; exact p1, q2, by rw [q3]; exact c.live⟩, by rw [q3, q4, d], by rw [q3, q5, f], by rw [q3, b]; rfl, fun _ => ⟨hfew, fun x hx => ?_⟩⟩
          rw [p3 x.1 (by rw [hnw]; exact (k2 x hx).1)]; exact (k2 x hx).2
        · exact .inr ⟨q1, q2, _, p1, q3.imp (fun q => by rw [q, d]) (fun q => by rw [q, d]), .inr (by rw [b]; rfl)⟩
      · rw [if_pos (by rw [a]; decide)]
        refine ⟨fun hs => absurd (k1 hs).1 (by rw [a]; decide), .inr ⟨a, b, ?_⟩⟩
        obtain ⟨segs', c1, c2, c3⟩ := c
        exact ⟨segs', c1, .inl c2, c3⟩
    · rw [if_neg hp, if_neg hp, if_neg hp]
      obtain ⟨p1, p2, p3, p4⟩ := h.put h1 (by omega)
      refine ⟨p2, ?_⟩
      rcases p4 with ⟨q1, q2, q3, q4, q5⟩ | ⟨q1, q2, q3⟩
      · exact .inl ⟨q1, ⟨by rw [q3]; exact p1, q2, by rw [q3]; exact h.live⟩, by rw [q3, q4], by rw [q3, q5], by rw [q3], fun hh => absurd hh hp⟩
      · exact .inr ⟨q1, q2, _, p1, q3, .inl rfl⟩
end Go.Proofs.YtjednaendedpdaaGreat
namespace Go.Proofs.YtjednaendedpdaaGreat
set_option maxRecDepth 100000
set_option linter.unusedVariables false
open Go Go.RowKit

theorem segC_one (l : List (Nat × Nat)) : ∀ u ∈ segC l, u.oneCell' = true := by
  intro u hu
  unfold segC at hu
  rw [List.mem_flatMap] at hu
  obtain ⟨s, _, hu⟩ := hu
  simp only [List.mem_cons, List.not_mem_nil, or_false] at hu
  rcases hu with rfl | rfl <;> rfl
set_option maxHeartbeats 1000000 in
theorem sclone_any (gs cap : Nat) (l : List (Nat × Nat)) (w : World) (hl : l.length ≤ 1000) (hc : ∀ j u, (segC l)[j]? = some u → w.cell? ⟨gs, j, none⟩ = some u) :
    Calls Tryz.prog 94 #[.slice (some ⟨gs, 0, none⟩) l.length cap] w fun e w' => ∃ v, e = .returned v ∧ w'.ownsRow w.heap.size 78 2 v l.length (segC l) ∧ Below w.heap.size w w' := by
  obtain ⟨i0, hi0, hz0, hsz0, hby0⟩ := info_parts info_tseg
  have hq := Lib.run_eql_slice_nil (P := Tryz.prog) w 71 78 (some ⟨gs, 0, none⟩) l.length cap 0 0 Tryz.underlying71
  go_enter Tryz.func94, Tryz.ntmps94
  have hcl : ∀ j u, (segC l)[j]? = some u → (w.alloc (.cells #[] 78)).cell? ((⟨gs, 0, none⟩ : Addr).add j) = some u := fun j u hu => by
    have : (⟨gs, 0, none⟩ : Addr).add j = ⟨gs, j, none⟩ := by unfold Addr.add; split <;> simp_all
    rw [this]; exact cellA _ (hc j u hu)
  have hb0 : Below w.heap.size w (w.alloc (.cells #[] 78)) := (Below.refl _ _).alloc (Nat.le_refl _) _
  have hown0 : (w.alloc (.cells #[] 78)).ownsRow w.heap.size 78 2 (.slice (some ⟨w.heap.size, 0, none⟩) 0 0) 0 [] := World.ownsRow_lit (base := w.heap.size) (size := 2) (e := 78) w #[] 0 (Nat.le_refl _) (by unfold maxLen; omega) rfl
  have hll := segC_len l
  go_upto_region 3 with (fail)
  go_wp2_with (at_builtin; refine wpList_append_own _ rfl (.tmp 5) (.tmp 6) 71 rfl w.heap.size 78 i0 _ 2 16 Tryz.underlying71 hi0 hz0 hsz0 hby0 rfl (by decide) (.slice (some ⟨w.heap.size, 0, none⟩) 0 0) 0 [] rfl hown0 ⟨gs, 0, none⟩ l.length cap (segC l) rfl (by omega) hcl (segC_one l) (by unfold maxLen; omega) (by omega) (by simp) ?_; intro v' w' hown' hgrow hnil)
  go_ret
  rw [Nat.zero_add, List.nil_append] at hown'
  exact ⟨v', rfl, hown', hb0.grown hgrow (by simp) (fun k hk => by simp [Value.ownBlock] at hk; omega)⟩
theorem segC_cut (l : List (Nat × Nat)) (i : Nat) : segC (l.take i) = (segC l).take (i * 2) ∧ segC (l.drop i) = (segC l).drop (i * 2) := by
  have e : segC l = segC (l.take i) ++ segC (l.drop i) := by rw [← segC_app, List.take_append_drop]
  rcases Nat.lt_or_ge i l.length with h | h
  · have hl : (segC (l.take i)).length = i * 2 := by rw [segC_len, List.length_take]; omega
    rw [e, ← hl, List.take_left, List.drop_left]; exact ⟨rfl, rfl⟩
  · have hl := segC_len l
    rw [List.take_of_length_le h, List.drop_eq_nil_of_le h, List.take_of_length_le (by omega), List.drop_eq_nil_of_le (by omega)]
    exact ⟨rfl, rfl⟩
theorem segC_erase (l : List (Nat × Nat)) (i : Nat) : segC (l.eraseIdx i) = (segC l).take (i * 2) ++ (segC l).drop ((i + 1) * 2) := by
  rw [List.eraseIdx_eq_take_drop_succ, segC_app, (segC_cut l i).1, (segC_cut l (i + 1)).2]
theorem clear_seg (w : World) (ty : TypeId) (gc o c : Nat) (cur : Array Value) (hg : w.heap[gc]? = some (.cells cur 78 (0, 0))) (ho : o + 2 ≤ cur.size) :
    (Builtin.clear_ #[71] ty #[.slice (some ⟨gc, o, none⟩) 1 c]).run Tryz.prog w = .ok (.tuple #[]) (w.setRow gc (cur.toList.take o ++ Value.int .i64 0 :: Value.int .i64 0 :: cur.toList.drop (o + 2)).toArray) := by
  have hst := run_storeCells_at (P := Tryz.prog) gc o 78 [.int .i64 0, .int .i64 0] 0 cur w hg ho (two_oneR 0 0)
  have hz : ∀ w, (zeroValue 78).run Tryz.prog w = .ok (.agg #[.int .i64 0, .int .i64 0]) w := fun w => by kernel_rfl
  have hzc : (Builtin.zeroCells (Value.agg #[.int .i64 0, .int .i64 0]).cells 1).toList = [Value.int .i64 0, Value.int .i64 0] := by kernel_rfl
  simp only [Nat.add_zero, List.append_assoc, List.cons_append, List.nil_append, List.length_cons, List.length_nil] at hst
  simp [Builtin.clear_, run_underlying Tryz.underlying71, hz, hzc, hst]
set_option maxHeartbeats 2000000 in
theorem sdelete_any (base gc cap : Nat) (l : List (Nat × Nat)) (i : Nat) (w : World) (hl : l.length ≤ 1000) (hi : i < l.length) (ho : w.ownsRow base 78 2 (.slice (some ⟨gc, 0, none⟩) l.length cap) l.length (segC l)) :
    Calls Tryz.prog 93 #[.slice (some ⟨gc, 0, none⟩) l.length cap, .int .i64 (i : Nat), .int .i64 ((i + 1 : Nat) : Int)] w fun e w' => ∃ v, e = .returned v ∧ w'.ownsRow base 78 2 v (l.length - 1) (segC (l.eraseIdx i)) ∧ v.ownBlock = some gc ∧ Upd [gc] w w' := by
  obtain ⟨i0, hi0, hz0, hsz0, hby0⟩ := info_parts info_tseg
  have hcap : l.length ≤ cap := by
    rcases ho.2 with ⟨h, _⟩ | ⟨g, c, cur, hv, _, _, h, _⟩
    · cases h
    · cases hv; exact h
  obtain ⟨cur, hcur, hcs, htk⟩ : ∃ cur, w.heap[gc]? = some (.cells cur 78 (0, 0)) ∧ cur.size = cap * 2 ∧ cur.toList.take (l.length * 2) = segC l := by
    rcases ho.2 with ⟨h, _⟩ | ⟨g, c, cur, hv, _, h1, _, _, h2, h3⟩
    · cases h
    · cases hv; exact ⟨cur, h1, h2, h3⟩
  obtain ⟨n, hn⟩ : ∃ n, n = l.length := ⟨_, rfl⟩
  rw [← hn] at hl hi hcap htk ⊢
  have h1 : (i : Int) ≤ (i : Int) + 1 := by omega
  have h2 : (i : Int) + 1 ≤ (n : Int) := by omega
  have h3 : ¬ (i : Int) = (i : Int) + 1 := by omega
  have h4 : i ≤ cap := by omega
  have h5 : (i : Int) ≤ (cap : Int) := by omega
  have h6 : (n : Int) ≤ (cap : Int) := by omega
  have h7 : i + 1 ≤ n := by omega
  have h8 : (0 : Int) ≤ (i : Int) + 1 := by omega
  rw [show ((i + 1 : Nat) : Int) = (i : Int) + 1 by omega]
  have HB : Box (base ≤ gc) := ⟨(World.ownsRow.lt ho gc rfl).1⟩
  have HCM : Box (cap ≤ maxLen) := ⟨by
    rcases ho.2 with ⟨h, _⟩ | ⟨g, c, cur, hv, _, _, _, h, _⟩
    · cases h
    · cases hv; exact h⟩
  have HN := Box.mk hn
  clear ho hn
  go_enter Tryz.func93, Tryz.ntmps93
  go_upto_region 5 with (fail)
  refine wp_region_mix 6 [.flo, .flo, .flo, .flo, .flo, .flo] (by kernel_rfl) (by kernel_rfl) rfl ?_
  simp only [List.take, List.zip, List.zipWith]
  try go_frame
  refine gm_move (.tmp 0) (.inl rfl) (.slice (some ⟨gc, 0, none⟩) n cap) rfl ?_
  try go_frame
  refine gm_move (.tmp 1) (.inl rfl) (.int .i64 (i : Nat)) rfl ?_
  try go_frame
  refine gm_flo (.slice (some ⟨gc, 0, none⟩) i cap) (fun w1 hw1 => ?_) ?_
  case refine_1 =>
    go_simp
  try go_frame
  refine gm_move (.tmp 0) (.inl rfl) (.slice (some ⟨gc, 0, none⟩) n cap) rfl ?_
  try go_frame
  refine gm_move (.tmp 2) (.inl rfl) (.int .i64 ((i : Int) + 1)) rfl ?_
  try go_frame
  refine gm_flo (.slice (if cap = i + 1 then some ⟨gc, 0, none⟩ else some ⟨gc, (i + 1) * 2, none⟩) (n - (i + 1)) (cap - (i + 1))) (fun w1 hw1 => ?_) ?_
  case refine_1 =>
    go_simp
  try go_frame
  refine gm_nil ?_
  intro w9 hw9 hF9
  simp only [List.drop]
  try go_frame

  have hgc : gc < w.drew.heap.size := (Array.getElem?_eq_some_iff.1 hcur).1
  have hr9 : w9.heap[gc]? = some (.cells cur 78 (0, 0)) := (Below.block hw9 gc hgc).trans hcur
  obtain ⟨ad, had, hnews⟩ : ∃ ad : Addr, (if cap = i + 1 then some (⟨gc, 0, none⟩ : Addr) else some ⟨gc, (i + 1) * 2, none⟩) = some ad ∧ ∀ j u, ((segC l).drop ((i + 1) * 2))[j]? = some u → w9.cell? (ad.add j) = some u := by
    have hlen := segC_len l
    by_cases hc : cap = i + 1
    · rw [if_pos hc]
      refine ⟨_, rfl, fun j u hu => ?_⟩
      rw [List.drop_eq_nil_of_le (by have := HN.out; omega)] at hu; simp at hu
    · rw [if_neg hc]
      refine ⟨_, rfl, fun j u hu => ?_⟩
      have : (⟨gc, (i + 1) * 2, none⟩ : Addr).add j = ⟨gc, (i + 1) * 2 + j, none⟩ := by unfold Addr.add; split <;> simp_all
      rw [this, cell_of_row _ _ _ _ _ _ hr9]
      rw [List.getElem?_drop, ← htk, List.getElem?_take] at hu
      split at hu
      · simpa using hu
      · cases hu
  rw [had]
  have hlen := segC_len l
  have hnl : ((segC l).drop ((i + 1) * 2)).length = (n - (i + 1)) * 2 := by rw [List.length_drop]; have := HN.out; omega
  have hone : ∀ u ∈ (segC l).drop ((i + 1) * 2), u.oneCell' = true := fun u hu => segC_one l u (List.mem_of_mem_drop hu)
  have RA := run_append_room (P := Tryz.prog) (w := w9) 71 71 78 i0 Tryz.underlying71 hi0 gc i cap cur hr9 ad (n - (i + 1)) (cap - (i + 1)) ((segC l).drop ((i + 1) * 2)) (by rw [hsz0]; exact hnl) hnews hone (by omega) (by rw [hsz0, hnl, hcs]; omega)
  rw [hsz0] at RA
  obtain ⟨m, hm, hm1⟩ : ∃ m, i + (n - (i + 1)) = m ∧ n = m + 1 := ⟨n - 1, by omega, by omega⟩
  rw [hm] at RA
  obtain ⟨cur2, hcur2⟩ : ∃ c : Array Value, c = (cur.toList.take (i * 2) ++ (segC l).drop ((i + 1) * 2) ++ cur.toList.drop (i * 2 + ((segC l).drop ((i + 1) * 2)).length)).toArray := ⟨_, rfl⟩
  rw [← hcur2] at RA
  have hc2s : cur2.size = cap * 2 := by
    have hcl : cur.toList.length = cap * 2 := by rw [Array.length_toList, hcs]
    rw [hcur2, List.size_toArray, List.length_append, List.length_append, hnl, List.length_take, List.length_drop, hcl]; omega
  obtain ⟨W5, hW5⟩ : ∃ W, W = w9.setRow gc cur2 := ⟨_, rfl⟩
  rw [← hW5] at RA
  have hr5 : W5.heap[gc]? = some (.cells cur2 78 (0, 0)) := by rw [hW5]; exact setRow_heap _ _ _ _ _ _ hr9
  have CL := fun c => clear_seg W5 0 gc (m * 2) c cur2 hr5 (by omega)
  have HU5 : Box (Upd [gc] w W5) := ⟨by
    rw [hW5]
    have h0 := (GrS.setRow (b := gc) (Gr.toS hw9 [gc]) (.inr (List.mem_singleton.2 rfl)) cur2).upd
    exact (Upd.refl [gc] w).drew.trans h0⟩
  have HC2 : Box (cur2.toList.take (m * 2) = segC (l.eraseIdx i)) := ⟨by
    have hcl : cur.toList.length = cap * 2 := by rw [Array.length_toList, hcs]
    rw [segC_erase, hcur2]
    show (List.take (m * 2) (cur.toList.take (i * 2) ++ (segC l).drop ((i + 1) * 2) ++ _)) = _
    rw [List.take_append_of_le_length (by rw [List.length_append, hnl, List.length_take, hcl]; omega), List.take_of_length_le (by rw [List.length_append, hnl, List.length_take, hcl]; omega)]
    congr 1
    rw [← htk, List.take_take, show min (i * 2) (n * 2) = i * 2 by omega]⟩
  have HR5 := Box.mk hr5
  have hmc : ¬ cap = m := by omega
  have HCS := Box.mk hc2s
  have hm0 : (m : Int) ≤ (m : Int) + 1 := by omega
  have HIM : Box (i ≤ m ∧ m + 1 ≤ cap ∧ m ≤ 1000) := ⟨by omega⟩
  subst hm1
  clear hcur2 hW5 hr9 hw9 hF9 hnews hcur hcs htk hr5 had hone hnl hgc hc2s hlen
  go_wp2_with (at_builtin; refine wpList_append_run rfl (.tmp 22) (.tmp 25) 71 rfl rfl rfl RA ?_)
  have hn1 : m + 1 = l.length := HN.out
  go_ret
  refine ⟨_, rfl, ⟨?_, .inr ⟨gc, cap, _, rfl, HB.out, setRow_heap _ _ _ _ _ _ HR5.out, by have := HIM.out; omega, HCM.out, ?_, ?_⟩⟩, rfl, ?_⟩
  · rw [segC_len, List.length_eraseIdx, if_pos (by have := HIM.out; omega)]; omega
  · have hcl : cur2.toList.length = cap * 2 := by rw [Array.length_toList, HCS.out]
    have := HIM.out
    rw [List.size_toArray, List.length_append, List.length_cons, List.length_cons, List.length_take, List.length_drop, hcl]; omega
  · have hcl : cur2.toList.length = cap * 2 := by rw [Array.length_toList, HCS.out]
    have := HIM.out
    show List.take _ (_ ++ _) = _
    rw [show m + 1 - 1 = m by omega, List.take_append_of_le_length (by rw [List.length_take, hcl]; omega), List.take_take, Nat.min_self]
    exact HC2.out
  · have h0 := (GrS.setRow (b := gc) (GrS.refl [gc] W5) (.inr (List.mem_singleton.2 rfl)) (cur2.toList.take (m * 2) ++ Value.int .i64 0 :: Value.int .i64 0 :: cur2.toList.drop (m * 2 + 2)).toArray).upd
    exact HU5.out.trans h0
end Go.Proofs.YtjednaendedpdaaGreat
namespace Go.Proofs.YtjednaendedpdaaGreat
set_option maxRecDepth 100000
set_option linter.unusedVariables false
open Go Go.RowKit

theorem own_formI {w : World} {base : Nat} {e : TypeId} {size : Nat} {v : Value} {n : Nat} {xs : List Value} (h : w.ownsRow base e size v n xs) (hn : 0 < n) : ∃ g cap, v = .slice (some ⟨g, 0, none⟩) n cap := by
  rcases h.2 with ⟨_, h0⟩ | ⟨g, cap, cur, hv, _⟩
  · omega
  · exact ⟨g, cap, hv⟩
theorem ldead_any (g q : Nat) (v : Value) (l : LS) (w : World) (h : Lg w g q v l) : Calls Tryz.prog 44 #[.pointer (some ⟨g, 0, none⟩)] w fun e w' => e = .returned (.bool l.dead) ∧ w = w' := by
  obtain ⟨c0, c1, c2⟩ := h.cells
  clear h
  go_enter Tryz.func44, Tryz.ntmps44
  go_wp2
  go_ret
  exact ⟨rfl, rfl⟩
theorem lperase_any (g q p bb cb : Nat) (F B : Int) (v : Value) (s : FS) (l : LS) (k : Int) (w : World) (h : LgS w F B g q p bb cb v s l) :
    Calls Tryz.prog 92 #[.pointer (some ⟨q, 0, none⟩), .int .i64 k] w fun e w' => e = .returned (.int .i64 (s.perase F B k).2) ∧ LgS w' F B g q p bb cb v (s.perase F B k).1 l ∧ Upd [p, bb, cb] w w' :=
  (perase_any q p bb cb F B s k w h.f h.ok h.pa h.i).mono fun e w' ⟨he, hf, hu⟩ => ⟨he, h.flash hf (FS.perase_ok h.ok F B k).1 (FS.perase_ok h.ok F B k).2 hu, hu⟩
set_option maxHeartbeats 4000000 in
theorem ldrop_any (g q p bb cb : Nat) (F B : Nat) (v : Value) (s : FS) (l : LS) (i : Nat) (w : World) (h : LgS w (F : Nat) (B : Nat) g q p bb cb v s l) (hk : l.Ok B) (hi : i < l.segs.length) :
    Calls Tryz.prog 72 #[.pointer (some ⟨g, 0, none⟩), .int .i64 (i : Nat)] w fun e w' => e = .returned (.int .i64 (s.ldrop F B l i).2.2) ∧
      (∃ v', LgS w' (F : Nat) (B : Nat) g q p bb cb v' (s.ldrop F B l i).1 (s.ldrop F B l i).2.1 ∧ ∀ j, v'.ownBlock = some j → v.ownBlock = some j ∨ w.heap.size ≤ j) ∧ Upd (fp g v p bb cb) w w' := by
  have hB : B ≤ 256 := by have h1 := h.i.hi; have h2 := h.i.lo; have h3 := h.i.few; omega
  obtain ⟨R, hR⟩ : ∃ R, R = s.ldrop F B l i := ⟨_, rfl⟩
  rw [← hR]
  unfold FS.ldrop at hR
  obtain ⟨c0, c1, c2⟩ := h.lg.cells
  obtain ⟨gs, cap, rfl, hs⟩ := h.lg.seg hk.ne
  have H := Box.mk h
  obtain ⟨n, hn⟩ : ∃ n, n = l.segs.length := ⟨_, rfl⟩
  have hnB : n ≤ B := by rw [hn]; exact hk.few
  rw [← hn] at c1 H hi hR ⊢
  have HN := Box.mk hn
  clear h
  by_cases h1 : n = 1
  · rw [if_pos h1] at hR
    have h1I : ((n : Int) == 1) = true := by rw [beq_iff_eq]; omega
    have HR := Box.mk hR
    clear hR h1
    go_enter Tryz.func72, Tryz.ntmps72
    go_wp2_with fail
    go_ret
    rw [HR.out]
    exact ⟨rfl, ⟨_, H.out, fun j hj => .inl hj⟩, Upd.refl _ _⟩
  · rw [if_neg h1] at hR
    have h1I : ((n : Int) == 1) = false := by rw [beq_eq_false_iff_ne]; omega
    cases hld : l.dead with
    | true =>
      rw [hld, if_pos rfl] at hR
      rw [hld] at c2
      have HR := Box.mk hR
      clear hR
      go_enter Tryz.func72, Tryz.ntmps72
      go_wp2_with fail
      go_ret
      rw [HR.out]
      exact ⟨rfl, ⟨_, H.out, fun j hj => .inl hj⟩, Upd.refl _ _⟩
    | false =>
      rw [hld, if_neg (by decide)] at hR
      rw [hld] at c2
      obtain ⟨cur, hcur, hcs, htk⟩ : ∃ cur, w.heap[gs]? = some (.cells cur 78 (0, 0)) ∧ cur.size = cap * 2 ∧ cur.toList.take (n * 2) = segC l.segs := by
        rcases H.out.lg.own.2 with ⟨h, _⟩ | ⟨g', c, cur, hv, _, hqa, _, _, hqb, hqc⟩
        · cases h
        · cases hv; exact ⟨cur, hqa, hqb, by rw [hn]; exact hqc⟩
      obtain ⟨sg, hsg⟩ : ∃ sg, l.segs[i]? = some sg := ⟨_, List.getElem?_eq_getElem (by omega)⟩
      have hgd : l.segs.getD i (0, 0) = sg := by rw [List.getD_eq_getElem?_getD, hsg]; rfl
      obtain ⟨sc0, sc1⟩ := hs i sg hsg
      rw [hgd] at hR
      obtain ⟨x1, x2⟩ := sg
      dsimp only at sc0 sc1 hR
      have HGS := Box.mk hcur
      have HX1 : Box (cur[i * 2]? = some (.int .i64 (x1 : Nat))) := ⟨by rw [← sc0, cell_of_row _ _ _ _ _ _ hcur]⟩
      have GN := Box.mk H.out.ap.hg
      have GSN : Box (gs ∉ [p, bb, cb]) := ⟨fun h => H.out.ap.hv gs rfl (List.mem_cons_of_mem _ (List.mem_cons_of_mem _ h))⟩
      have LT : Box (∀ k ∈ [p, bb, cb], k < w.heap.size) := ⟨by have := H.out.f.lt; intro k hk; simp at hk; omega⟩
      have PE := Box.mk (fun w h => lperase_any g q p bb cb (F : Nat) (B : Nat) (.slice (some ⟨gs, 0, none⟩) n cap) s l (x1 : Nat) w h)
      have HR := Box.mk hR
      generalize s.perase (F : Nat) (B : Nat) (x1 : Nat) = r at PE HR
      obtain ⟨s1, e1⟩ := r
      dsimp only at PE HR
      have hiI : (i : Int) < (n : Int) := by omega
      have hn1 : n ≤ 256 := by omega
      have HS := Box.mk hs
      clear hR hcur hcs htk hsg hgd sc0 sc1 hs hB hn
      go_enter Tryz.func72, Tryz.ntmps72
      go_upto_region 5 with (fail)
      refine wp_region_mixS [p, bb, cb] (fun w => LgS w (F : Nat) (B : Nat) g q p bb cb (.slice (some ⟨gs, 0, none⟩) n cap) s l) (fun w w' hg h => h.keep hg.upd) (H.out.keep (Upd.refl [] w).drew) (LT.out) 14 [.flo, .flo, .flo, .flo, .flo, .flo, .flo, .flo, .flo, .flo, .flo, .flo, .flo, .cha] (by kernel_rfl) (by kernel_rfl) rfl ?_
      simp only [List.take, List.zip, List.zipWith]
      try go_frame
      refine gm_move (.tmp 0) (.inl rfl) (.pointer (some ⟨g, 0, none⟩)) rfl ?_
      try go_frame
      refine gm_move (.tmp 0) (.inl rfl) (.pointer (some ⟨g, 0, none⟩)) rfl ?_
      try go_frame
      refine gm_flo (.pointer (some ⟨g, 0, none⟩)) (fun w1 hw1 => ?_) ?_
      case refine_1 =>
        go_simp
      try go_frame
      refine gm_flo (.pointer (some ⟨g, 0, none⟩)) (fun w1 hw1 => ?_) ?_
      case refine_1 =>
        go_simp
      try go_frame
      refine gm_flo (.pointer (some ⟨q, 0, none⟩)) (fun w1 hw1 => ?_) ?_
      case refine_1 =>
        have e1 : w1.cell? ⟨g, 0, none⟩ = some (.pointer (some ⟨q, 0, none⟩)) := (cell_of_row _ _ _ _ _ _ (hw1.at (GN.out) H.out.lg.row)).trans rfl
        go_simp
      try go_frame
      refine gm_move (.tmp 0) (.inl rfl) (.pointer (some ⟨g, 0, none⟩)) rfl ?_
      try go_frame
      refine gm_flo (.pointer (some ⟨g, 0, none⟩)) (fun w1 hw1 => ?_) ?_
      case refine_1 =>
        go_simp
      try go_frame
      refine gm_flo (.pointer (some ⟨g, 1, none⟩)) (fun w1 hw1 => ?_) ?_
      case refine_1 =>
        go_simp
      try go_frame
      refine gm_flo (.slice (some ⟨gs, 0, none⟩) n cap) (fun w1 hw1 => ?_) ?_
      case refine_1 =>
        have e1 : w1.cell? ⟨g, 1, none⟩ = some (.slice (some ⟨gs, 0, none⟩) n cap) := (cell_of_row _ _ _ _ _ _ (hw1.at (GN.out) H.out.lg.row)).trans rfl
        go_simp
      try go_frame
      refine gm_move (.tmp 1) (.inl rfl) (.int .i64 (i : Nat)) rfl ?_
      try go_frame
      refine gm_flo (.pointer (some ⟨gs, i * 2, none⟩)) (fun w1 hw1 => ?_) ?_
      case refine_1 =>
        go_simp
      try go_frame
      refine gm_flo (.pointer (some ⟨gs, i * 2, none⟩)) (fun w1 hw1 => ?_) ?_
      case refine_1 =>
        go_simp
      try go_frame
      refine gm_flo (.int .i64 (x1 : Nat)) (fun w1 hw1 => ?_) ?_
      case refine_1 =>
        have e1 : w1.cell? ⟨gs, i * 2, none⟩ = some (.int .i64 (x1 : Nat)) := (cell_of_row _ _ _ _ _ _ (hw1.at GSN.out HGS.out)).trans HX1.out
        go_simp
      try go_frame
      refine gm_callS [.pointer (some ⟨q, 0, none⟩), .int .i64 (x1 : Nat)] (by kernel_rfl) rfl rfl (fun w1 hw1 hF1 => (PE.out w1 hF1).mono ?_)
      rintro e w2 ⟨rfl, hf, hu⟩
      refine ⟨_, rfl, GrS.of_upd hu (by simp), ((fun w => LgS w (F : Nat) (B : Nat) g q p bb cb (.slice (some ⟨gs, 0, none⟩) n cap) s1 l)), ((fun w w' hg h => h.keep hg.upd)), (hf), ?_⟩
      clear hw1 hF1 hf hu w1 w2
      try go_frame
      refine gm_nil ?_
      intro w9 hw9 hF9
      simp only [List.drop]
      try go_frame
      have H9 := Box.mk hF9; have U9 := Box.mk ((Upd.refl [g, p, bb, cb] w).drew.trans (hw9.upd.mono (T := [g, p, bb, cb]) (fun k hk => List.mem_cons_of_mem _ hk)))
      clear hF9 hw9
      go_wp2_with fail
      refine (ltold_any g q _ l e1 _ H9.out.lg H9.out.vg).mono ?_
      rintro e w2 ⟨rfl, hl, hu⟩
      have H10 := Box.mk (H9.out.own hl hu); have U10 := Box.mk (U9.out.trans (hu.mono (T := [g, p, bb, cb]) (by simp)))
      clear hl hu H9 U9
      by_cases he : e1 = 0
      · have heb : (e1 != 0) = false := by simpa using he
        have hr := HR.out
        rw [if_neg (by simpa using he)] at hr
        have HRz := Box.mk hr
        subst he
        clear hr
        have hcc : ∀ j u, (segC l.segs)[j]? = some u → w2.cell? ⟨gs, j, none⟩ = some u := fun j u hu => by
          have ho := H10.out.lg.own
          change w2.ownsRow 0 78 2 _ l.segs.length (segC l.segs) at ho
          rw [← HN.out] at ho
          have hj := (List.getElem?_eq_some_iff.1 hu).1
          rw [segC_len, ← HN.out] at hj
          exact (ho.cellAt j (by omega)).trans hu
        obtain ⟨d0, d1, d2⟩ := H10.out.lg.cells
        have CLN := Box.mk (sclone_any gs cap l.segs w2 (by have := HN.out; omega) hcc)
        rw [← HN.out] at CLN
        clear hcc
        go_wp2_with fail
        refine CLN.out.mono ?_
        rintro e w3 ⟨vc, rfl, hown, hb⟩
        have OWNC := Box.mk hown
        have H11s : Box (∀ k ∈ [g, q, p, bb, cb], k < w2.heap.size) := ⟨by
          have h1 := H10.out.f.lt; have h2 := H10.out.lg.lt; have h3 := H10.out.pa.lt
          intro k hk; simp only [List.mem_cons, List.not_mem_nil, or_false] at hk; omega⟩
        have H11 := Box.mk (H10.out.keep (Upd.of_below hb)); have U11 := Box.mk (U10.out.trans ((Upd.of_below (S := []) hb).mono (by simp))); have S2 := Box.mk U10.out.size
        clear hown hb H10 U10 d0 d1 d2 CLN
        obtain ⟨gc, capc, rfl⟩ := own_formI OWNC.out (by omega)
        have DEL := Box.mk (sdelete_any w2.heap.size gc capc l.segs i w3 (by have := HN.out; omega) (by have := HN.out; omega) (by rw [← HN.out]; exact OWNC.out))
        rw [← HN.out, show ((i + 1 : Nat) : Int) = (i : Int) + 1 by omega] at DEL
        have hwi : IntKind.i64.wrap ((i : Int) + 1) = ((i + 1 : Nat) : Int) := by rw [IntKind.wrap_i64]; omega
        have rg3 := H11.out.lg.row
        have GC3 := Box.mk (World.ownsRow.lt OWNC.out gc rfl)
        have hgg : g ≠ gc := fun e => by have := H11s.out g (by simp); have := GC3.out.1; omega
        go_wp2_with fail
        refine DEL.out.mono ?_
        rintro e w4 ⟨vd, rfl, hown, hgd, hu⟩
        obtain ⟨gd, capd, rfl⟩ := own_formI hown (by omega)
        obtain rfl : gd = gc := by simpa [Value.ownBlock] using hgd
        have rg4 := (hu.block g (Array.getElem?_eq_some_iff.1 rg3).1 (by simpa using hgg)).trans rg3
        have f1 : w4.frozen? ⟨g, 1, none⟩ = false := frozen_of_row _ _ _ _ _ rg4
        have e1 : w4.cell? ⟨g, 1, none⟩ = some (.slice (some ⟨gs, 0, none⟩) n cap) := (cell_of_row _ _ _ _ _ _ rg4).trans rfl
        have OWD := Box.mk hown; have UD := Box.mk hu
        clear hown hu hgd
        go_wp2_with fail
        go_ret
        have u5 : Upd [gd, g] w3 (w4.setCell ⟨g, 1, none⟩ (.slice (some ⟨gd, 0, none⟩) (n - 1) capd)) := (UD.out.mono (T := [gd, g]) (by simp)).setCell (.inl (by simp)) _
        have nn : ∀ k ∈ [g, q, p, bb, cb], k ≠ gd := fun k hk e => by have := H11s.out k hk; have := GC3.out.1; omega
        have nm := H11.out.ap.nm
        have nv : ∀ j, j ∈ [q, p, bb, cb] → j ∉ [gd, g] := fun j hj hm => by
          rcases List.mem_cons.1 hm with rfl | hm
          · exact nn j (List.mem_cons_of_mem _ hj) rfl
          · rw [List.mem_singleton] at hm; subst hm
            simp only [List.mem_cons, List.not_mem_nil, or_false] at hj; omega
        rw [HRz.out]
        refine ⟨rfl, ⟨.slice (some ⟨gd, 0, none⟩) (n - 1) capd, ⟨⟨H11.out.ap.hq, H11.out.ap.hg, fun j hj => ?_⟩, H11.out.f.upd u5 (nv _ (by simp)) (nv _ (by simp)) (nv _ (by simp)), H11.out.ok, H11.out.pa.upd u5 (nv _ (by simp)), H11.out.i, ⟨?_, ?_⟩⟩, fun j hj => ?_⟩, ?_⟩
        · simp [Value.ownBlock] at hj; subst hj; exact fun h => nn _ h rfl
        · rw [heap_setCell_same _ _ _ _ _ _ rg4]; rfl
        · have ho := own_keep OWD.out (w' := w4.setCell ⟨g, 1, none⟩ (.slice (some ⟨gd, 0, none⟩) (n - 1) capd)) fun j hj _ => heap_setCell_other _ _ _ _ (by simp [Value.ownBlock] at hj; subst hj; exact fun e => hgg e.symm)
          rw [List.length_eraseIdx, if_pos (by have := HN.out; omega), ← HN.out]
          exact ⟨ho.1, ho.2.imp id fun ⟨a, b, c, d, _, f⟩ => ⟨a, b, c, d, Nat.zero_le _, f⟩⟩
        · simp [Value.ownBlock] at hj; subst hj
          exact .inr (Nat.le_trans S2.out GC3.out.1)
        · exact (U11.out.mono (T := fp g (.slice (some ⟨gs, 0, none⟩) n cap) p bb cb) (by simp [fp])).ext u5 (fun j hj => by
            rcases List.mem_cons.1 hj with rfl | hj
            · exact .inr (Nat.le_trans S2.out GC3.out.1)
            · rw [List.mem_singleton] at hj; subst hj; exact .inl (by simp [fp]))
      · have heb : (e1 != 0) = true := by rw [bne_iff_ne]; exact he
        have hr := HR.out
        rw [if_pos (by simpa using he)] at hr
        have HR := Box.mk hr
        clear hr he
        go_wp2_with fail
        go_ret
        rw [HR.out]
        exact ⟨rfl, ⟨_, H10.out, fun j hj => .inl hj⟩, U10.out.mono (by simp [fp])⟩
/-- What a drop leaves. -/
def LDrop (w : World) (F B : Nat) (g q p bb cb : Nat) (v : Value) (r : FS × LS × Int) (e : Ending) (w' : World) : Prop :=
  e = .returned (.int .i64 r.2.2) ∧ (∃ v', LgS w' (F : Nat) (B : Nat) g q p bb cb v' r.1 r.2.1 ∧ ∀ j, v'.ownBlock = some j → v.ownBlock = some j ∨ w.heap.size ≤ j) ∧ Upd (fp g v p bb cb) w w'
theorem loldest_any (g q p bb cb : Nat) (F B : Nat) (v : Value) (s : FS) (l : LS) (w : World) (h : LgS w (F : Nat) (B : Nat) g q p bb cb v s l) (hk : l.Ok B) :
    Calls Tryz.prog 39 #[.pointer (some ⟨g, 0, none⟩)] w (LDrop w F B g q p bb cb v (s.ldrop F B l 0)) := by
  have D := Box.mk (ldrop_any g q p bb cb F B v s l 0 w h hk (List.length_pos_iff.2 hk.ne))
  generalize s.ldrop F B l 0 = r at D ⊢
  clear h hk
  go_enter Tryz.func39, Tryz.ntmps39
  go_wp2_with fail
  refine D.out.mono ?_
  rintro e w1 ⟨rfl, h1, u1⟩
  have H1 := Box.mk h1; have U1 := Box.mk u1; clear h1 u1
  go_wp2_with fail
  go_ret
  exact ⟨rfl, H1.out, U1.out⟩
theorem lnewdrop_any (g q p bb cb : Nat) (F B : Nat) (v : Value) (s : FS) (l : LS) (w : World) (h : LgS w (F : Nat) (B : Nat) g q p bb cb v s l) (hk : l.Ok B) :
    Calls Tryz.prog 56 #[.pointer (some ⟨g, 0, none⟩)] w (LDrop w F B g q p bb cb v (s.ldrop F B l (l.segs.length - 1))) := by
  have hB : B ≤ 256 := by have h1 := h.i.hi; have h2 := h.i.lo; have h3 := h.i.few; omega
  obtain ⟨k, hk1, hn⟩ := LS.newest_at hk.ne
  have hfew := hk.few
  have D := Box.mk (ldrop_any g q p bb cb F B v s l k w h hk (by omega))
  rw [show l.segs.length - 1 = k by omega]
  generalize s.ldrop F B l k = r at D ⊢
  obtain ⟨c0, c1, c2⟩ := h.lg.cells
  obtain ⟨gs, cap, hv, _⟩ := h.lg.seg hk.ne
  have hwk : IntKind.i64.wrap (k : Int) = (k : Int) := by rw [IntKind.wrap_i64]; omega
  rw [hk1] at hv
  have HV := Box.mk hv
  rw [hv] at c1
  clear h hk hn hv
  go_enter Tryz.func56, Tryz.ntmps56
  go_wp2_with fail
  refine D.out.mono ?_
  rintro e w1 ⟨rfl, h1, u1⟩
  have H1 := Box.mk h1; have U1 := Box.mk u1; clear h1 u1
  go_wp2_with fail
  go_ret
  exact ⟨rfl, H1.out, U1.out⟩
end Go.Proofs.YtjednaendedpdaaGreat
namespace Go.Proofs.YtjednaendedpdaaGreat
set_option maxRecDepth 100000
set_option linter.unusedVariables false
open Go Go.RowKit Go.Shelf
attribute [local go_sem] Oper.semAt_some

theorem info_ti : (Tryz.prog.info? 3).map (fun i => (i.zero, i.size, i.bytes)) = some (some (.int .i64 0), 1, 8) := by kernel_rfl
/-- A log lies below n₀, as its iterator reads it. -/
structure LgB (n₀ : Nat) (W : World) (g : Nat) (xs : List (Nat × Nat)) : Prop where
  at_ : ∃ gs cap, g < n₀ ∧ gs < n₀ ∧ W.cell? ⟨g, 1, none⟩ = some (.slice (some ⟨gs, 0, none⟩) xs.length cap) ∧ ∀ j s, xs[j]? = some s → W.cell? ⟨gs, j * 2, none⟩ = some (.int .i64 (s.1 : Int)) ∧ W.cell? ⟨gs, j * 2 + 1, none⟩ = some (.int .i64 (s.2 : Int))
theorem LgB.below {n₀ : Nat} {A B : World} (h : Below n₀ A B) {g : Nat} {xs : List (Nat × Nat)} (hl : LgB n₀ A g xs) : LgB n₀ B g xs := by
  obtain ⟨gs, cap, h1, h2, h3, h4⟩ := hl
  exact ⟨gs, cap, h1, h2, (h.cell (p := ⟨g, 1, none⟩) h1).trans h3, fun j s hj => ⟨(h.cell (p := ⟨gs, _, none⟩) h2).trans (h4 j s hj).1, (h.cell (p := ⟨gs, _, none⟩) h2).trans (h4 j s hj).2⟩⟩
set_option maxHeartbeats 2000000 in
/-- The iterator. -/
theorem lall1_in (F : Fence) (n : Nat) (hf : F.fn 90) (hro : F.round = none) (hn : 1 ≤ n) (l Bn n₀ g : Nat) (xs : List (Nat × Nat)) (hlen : xs.length ≤ 1000) (J Jx : List (Nat × Nat) → World → Prop) (hJa : ∀ s W o, J s W → J s (World.alloc W o))
    (hY : ∀ pre x W, J pre W → pre.length < xs.length → YieldAt F (n - 1) Tryz.prog l #[.int .i64 (x.2 : Int)] W fun e W' =>
      (e = .returned (.bool true) ∧ J (pre ++ [x]) W' ∧ Below n₀ W W') ∨ (e = .returned (.bool false) ∧ Jx (pre ++ [x]) W'))
    (W : World) (hW0 : n₀ ≤ W.heap.size) (hBn : W.cell? ⟨Bn, 0, none⟩ = some (.pointer (some ⟨g, 0, none⟩))) (hL : LgB n₀ W g xs) (h0 : J [] W) :
    CallsIn F n Tryz.prog 90 #[.func (.yield l) #[] #[], .pointer (some ⟨Bn, 0, none⟩)] W fun e W' => (∃ v, e = .returned v) ∧
      ((∃ ys, ys = xs ∧ J ys W') ∨ (∃ pre, pre <+: xs ∧ Jx pre W')) := by
  obtain ⟨gs, cap, hg, hgs, hg1, hcs⟩ := hL
  refine callsIn_of_wp Tryz.func90 rfl hf ?_ hro
  simp only [Tryz.ntmps90, List.size_toArray, List.length_cons, List.length_nil, Nat.reduceAdd, Nat.reduceSub, Array.replicate_succ, Array.replicate_zero, List.push_toArray, List.append_toArray, List.nil_append, List.cons_append]
  gi_wp2
  gi_loopw [10] (fun i wr => ∃ k : Nat, k ≤ xs.length ∧ i = .int .i64 k ∧ J (xs.take k) wr ∧ Below n₀ W wr) (fun i _ => xs.length - (intOf i).toNat)
  case atStart => exact ⟨0, Nat.zero_le _, rfl, h0, Below.refl _ _⟩
  case round =>
    obtain ⟨k, hk, rfl, hJs, hnx⟩ := hrel
    by_cases hlt : k < xs.length
    · obtain ⟨x, hx⟩ : ∃ x, xs[k]? = some x := ⟨_, List.getElem?_eq_getElem hlt⟩
      obtain ⟨s0, s1⟩ := hcs k x hx
      have c0 := (hnx.cell (p := ⟨gs, k * 2, none⟩) hgs).trans s0
      have c1 := (hnx.cell (p := ⟨gs, k * 2 + 1, none⟩) hgs).trans s1
      have hkI : (k : Int) < (xs.length : Int) := by omega
      have hJ2 : J (xs.take k) (wr.alloc (.cells #[.int .i64 (x.1 : Int), .int .i64 (x.2 : Int)] 78)) := hJa _ _ _ hJs
      obtain ⟨fn, tmps, assign, body, hy, hR⟩ := hY _ x _ hJ2 (by rw [List.length_take]; omega)
      have htk : xs.take k ++ [x] = xs.take (k + 1) := by rw [List.take_add_one, hx]; rfl
      have hal : Below n₀ wr (wr.alloc (.cells #[.int .i64 (x.1 : Int), .int .i64 (x.2 : Int)] 78)) := (Below.refl _ _).alloc (Nat.le_trans hW0 hnx.size) _
      clear hcs s0 s1 hx
      gi_wp2
      refine hR.mono ?_
      rintro e W3 (⟨rfl, hJ3, hk3⟩ | ⟨rfl, hJx3⟩)
      · gi_wp2
        go_roundw
        case rel => exact ⟨k + 1, by omega, by go_num, by rw [← htk]; exact hJ3, hnx.trans (hal.trans hk3)⟩
        case measure => simp [intOf]; omega
      · gi_wp2
        refine bodyPost_ret (results_none rfl _ _ _) rfl ?_
        exact ⟨⟨_, rfl⟩, .inr ⟨_, by rw [htk]; exact List.take_prefix _ _, hJx3⟩⟩
    · obtain rfl : k = xs.length := by omega
      gi_wp2
      go_end0
      exact ⟨⟨_, rfl⟩, .inl ⟨_, List.take_length, hJs⟩⟩
set_option maxHeartbeats 1000000 in
theorem lall_in (F : Fence) (n : Nat) (hf : F.fn 67) (hro : F.round = none) (g : Nat) (w : World) :
    CallsIn F n Tryz.prog 67 #[.pointer (some ⟨g, 0, none⟩)] w fun e w' => e = .returned (.func (.func 90) #[] #[.pointer (some ⟨w.heap.size, 0, none⟩)]) ∧ w' = w.alloc (.cells #[.pointer (some ⟨g, 0, none⟩)] 38) := by
  refine callsIn_of_wp Tryz.func67 rfl hf ?_ hro
  simp only [Tryz.ntmps67, List.size_toArray, List.length_cons, List.length_nil, Nat.reduceAdd, Nat.reduceSub, Array.replicate_succ, Array.replicate_zero, List.push_toArray, List.append_toArray, List.nil_append, List.cons_append]
  gi_wp2
  go_ret
  exact ⟨rfl, rfl⟩
theorem lall_stops (F : Fence) (n : Nat) (hf : F.fn 90) (hro : F.round = none) (hn : 1 ≤ n) (Bn n₀ g : Nat) (xs : List (Nat × Nat)) (hlen : xs.length ≤ 1000) (w : World) (hBn : Bn < w.heap.size) (hn₀ : n₀ ≤ w.heap.size)
    (hc : w.cell? ⟨Bn, 0, none⟩ = some (.pointer (some ⟨g, 0, none⟩))) (hL : LgB n₀ w g xs) :
    SeqStopsK F n Tryz.prog 90 #[.pointer (some ⟨Bn, 0, none⟩)] (fun x : Nat × Nat => #[Value.int .i64 (x.2 : Int)]) (Below n₀) (fun ys => ys = xs) (fun pre => pre <+: xs) xs.length w := fun l J Jx W hW hJ hJx hY h0 =>
  lall1_in F n hf hro hn l Bn n₀ g xs hlen J Jx (fun s A o hs => hJ s A _ none hs (World.grownBy_alloc _ _ none) (fun r e => by cases e)) hY W (Nat.le_trans hn₀ hW.size) ((hW.cell (p := ⟨Bn, 0, none⟩) hBn).trans hc) (hL.below (hW.mono hn₀)) h0
def segN (l : List (Nat × Nat)) : List Value := l.map fun x => Value.int .i64 (x.2 : Int)
set_option maxHeartbeats 2000000 in
theorem lsegs_in (F : Fence) (n : Nat) (h3 : F.fn 35) (h4 : F.fn 67) (h5 : F.fn 90) (hro : F.round = none) (hn : 3 ≤ n) (g : Nat) (xs : List (Nat × Nat)) (hlen : xs.length ≤ 1000) (w : World) (hL : LgB w.heap.size w g xs) :
    CallsIn F n Tryz.prog 35 #[.pointer (some ⟨g, 0, none⟩)] w fun e W' => ∃ v, e = .returned v ∧ W'.ownsRow w.heap.size 3 1 v xs.length (segN xs) ∧ Below w.heap.size w W' := by
  have h1 : 1 ≤ n := by omega
  obtain ⟨i0, hi, hz0, hz1, hz2⟩ := info_parts info_ti
  refine callsIn_of_wp_marks Tryz.func35 rfl h3 ?_ hro
  simp only [Tryz.ntmps35, List.size_toArray, List.length_cons, List.length_nil, Nat.reduceAdd, Nat.reduceSub, Array.replicate_succ, Array.replicate_zero, List.push_toArray, List.append_toArray, List.nil_append, List.cons_append]
  gi_wp2_with (gi_at_call 67; refine (lall_in F (n - 1) h4 hro _ _).mono ?_; rintro e w' ⟨rfl, rfl⟩)
  have bO := Boxed.new w 64 (.slice none 0 0)
  have bN := Boxed.new (w.alloc (.cells #[.slice none 0 0] 64)) 38 (.pointer (some ⟨g, 0, none⟩))
  rw [World.size_alloc] at bN
  have hB0 : Below w.heap.size w ((w.alloc (.cells #[.slice none 0 0] 64)).alloc (.cells #[.pointer (some ⟨g, 0, none⟩)] 38)) := ((Below.refl _ w).alloc (Nat.le_refl _) _).alloc (by simp) _
  refine wpIn_rangeFunc_ownG hro h1 (gf := 90) (lb := #[.pointer (some ⟨w.heap.size + 1, 0, none⟩)]) rfl h5 (enters_of Tryz.func90 (by kernel_rfl) rfl)
    (lall_stops F (n - 1) h5 hro (by omega) (w.heap.size + 1) w.heap.size g xs hlen _ (by simp) (by simp; omega) bN.cell (hL.below hB0)) belowK_t (belowK_b (by simp; omega)) (Below.refl _ _) (fun _ => rfl)
    (fun pre W => (∃ v, Boxed W w.heap.size 64 v ∧ W.ownsRow w.heap.size 3 1 v pre.length (segN pre) ∧ (v = .slice none 0 0 ↔ pre = [])) ∧ Below w.heap.size w W)
    (fun _ _ _ => False)
    (OwnFrom.and (Own.from (holdsRow_own w.heap.size w.heap.size 64 3 1 (fun pre : List (Nat × Nat) => pre.length) (fun pre => segN pre) (fun pre v => v = .slice none 0 0 ↔ pre = [])) _) (ownFrom_below (Nat.le_refl _) (by simp; omega)))
    (fun _ _ _ _ _ hs _ _ => hs)
    ⟨⟨_, bO.alloc _, World.ownsRow_nil _ _ _ _, by simp⟩, hB0⟩
    (fun x => { tmps := #[.pointer (some ⟨g, 0, none⟩), undef, .slice none 0 0, .pointer (some ⟨w.heap.size, 0, none⟩), .int .i64 (x.2 : Int), .pointer (some ⟨g, 0, none⟩), .func (.func 90) #[] #[.pointer (some ⟨w.heap.size + 1, 0, none⟩)], .int .i64 (x.2 : Int), undef, undef, undef, undef, undef], defers := [] }) ?assign ?body ?done ?stop
  case assign =>
    intro l x W K hK
    gi_wp2
    exact hK
  case body =>
    rintro l pre x W ⟨⟨v, hv, hrow, hnil⟩, hB⟩ hlt
    have hc := hv.cell
    gi_wp2_with (gi_at_builtin; refine wpListIn_append_own _ rfl _ _ 64 rfl w.heap.size 3 i0 (.int .i64 0) 1 8 Tryz.underlying64 hi hz0 hz1 hz2 rfl (by decide) _ _ _ rfl (hrow.alloc _) ⟨W.heap.size, 0, none⟩ 1 1 [.int .i64 (x.2 : Int)] rfl rfl (cell_one_new _ _ _) (by simp [Value.oneCell']) (by unfold maxLen; omega) (by omega) (by have := hB.size; simp; omega) ?_; intro v' w1 hown' hgrow _; obtain ⟨g', cap', rfl⟩ := ownsRow_succ hown'; obtain ⟨hv1, hv2, hr2, hk2, hb2⟩ := hv.appended (by decide) hrow hB.size (Nat.le_refl _) hown' hgrow; have hc1 := hv1.cell; have hf1 := hv1.frozen)
    exact ⟨hk2.from _, hb2, ⟨_, hv2, by rw [show segN (pre ++ [x]) = segN pre ++ [.int .i64 (x.2 : Int)] by simp [segN]]; simpa using hr2, by simp⟩, hB.trans hb2⟩
  case done =>
    rintro D ys W hD rfl ⟨⟨v, hv, hrow, hnil⟩, hB⟩ hK
    have hc := hv.cell
    gi_wp2
    refine ⟨by simp, .inl ⟨_, _, rfl, run_takeDeferred hK, ?_⟩⟩
    exact ⟨_, results_tmp rfl _ _ _, v, rfl, ownsRow_putObj hrow _ hK rfl, hB.trans (belowK_b (w := w) (Nat.le_refl _) W D _ _ (by simp at hD; omega) hK rfl rfl)⟩
  case stop =>
    rintro D c pre W _ _ h _
    exact h.elim
theorem lsegs_any (g q p bb cb : Nat) (F B : Int) (v : Value) (s : FS) (l : LS) (w : World) (h : LgS w F B g q p bb cb v s l) (hne : l.segs ≠ []) (hl : l.segs.length ≤ 1000) :
    Calls Tryz.prog 35 #[.pointer (some ⟨g, 0, none⟩)] w fun e w' => ∃ v', e = .returned v' ∧ w'.ownsRow w.heap.size 3 1 v' l.segs.length (segN l.segs) ∧ LgS w' F B g q p bb cb v s l ∧ Below w.heap.size w w' := by
  obtain ⟨gs, cap, rfl, hs⟩ := h.lg.seg hne
  refine (callsIn_wide (n := 3)).1 ((lsegs_in Fence.wide 3 trivial trivial trivial rfl (by omega) g l.segs hl w ⟨gs, cap, h.lg.lt, (World.ownsRow.lt h.lg.own gs rfl).2, h.lg.cells.2.1, hs⟩).mono ?_)
  rintro e w' ⟨v', he, ho, hb⟩
  exact ⟨v', he, ho, h.keep (Upd.of_below hb), hb⟩
end Go.Proofs.YtjednaendedpdaaGreat
namespace Go.Proofs.YtjednaendedpdaaGreat
set_option maxRecDepth 100000
set_option linter.unusedVariables false
open Go Go.RowKit

theorem ba_at (s : ByteArray) (k : Nat) (h : k < s.size) : s.data.toList.getD k 0 = s[k] := by
  rw [List.getD_eq_getElem?_getD, List.getElem?_eq_getElem (by simpa using h)]; simp; rfl
theorem bodyL_len (S : List UInt8) (p : Nat) : ∀ m, 1 ≤ m → 64 * (p + m) ≤ S.length → (bodyL S p m).length = 60 + 63 * (m - 1)
  | 0, h, _ => by omega
  | 1, _, h => by rw [bodyL, List.length_take, List.length_drop]; omega
  | m + 2, _, h => by
    show (bodyL S p (m + 1) ++ _).length = _
    rw [List.length_append, bodyL_len S p (m + 1) (by omega) (by omega), List.length_take, List.length_drop]; omega
set_option maxHeartbeats 4000000 in
theorem record_any (s : ByteArray) (hs : s.size = 512) (p : Nat) (hp : p < 8) (w : World) :
    Calls Tryz.prog 71 #[.string s, .int .i64 (p : Nat)] w fun e w' => e = .returned (.tuple #[.string ⟨(recL s.data.toList p).1.toArray⟩, .int .i64 ((recL s.data.toList p).2 : Nat)]) ∧ w = w' := by
  obtain ⟨R, hR⟩ : ∃ R, R = recL s.data.toList p := ⟨_, rfl⟩
  rw [← hR]
  unfold recL at hR
  have hSl : s.data.toList.length = 512 := by rw [← hs]; simp
  obtain ⟨A, hA, HA⟩ : ∃ x : Nat, IntKind.i64.wrap ((p : Int) * 64) = (x : Int) ∧ Box (x = 64 * p) := ⟨64 * p, by rw [IntKind.wrap_i64]; omega, ⟨rfl⟩⟩
  have hA4 : A + 64 ≤ s.size := by have := HA.out; omega
  have hA0 : A < s.size := by omega
  have hA3 : A + 3 < s.size := by omega
  obtain ⟨x0, hx0⟩ : ∃ x, (s[A]'hA0).toNat = x := ⟨_, rfl⟩
  obtain ⟨x3, hx3⟩ : ∃ x, (s[A + 3]'hA3).toNat = x := ⟨_, rfl⟩
  have h0 : hdrL s.data.toList p = decide (x0 = 1 ∧ x3 = 0) := by
    unfold hdrL
    rw [← HA.out, ba_at s A hA0, ba_at s (A + 3) hA3, ← hx0, ← hx3, Bool.eq_iff_iff, Bool.and_eq_true, beq_iff_eq, beq_iff_eq, decide_eq_true_iff]
    constructor
    · rintro ⟨h1, h2⟩; rw [h1, h2]; exact ⟨rfl, rfl⟩
    · rintro ⟨h1, h2⟩; exact ⟨UInt8.toNat_inj.1 h1, UInt8.toNat_inj.1 h2⟩
  by_cases c0 : x0 = 1 ∧ x3 = 0
  · obtain ⟨rfl, rfl⟩ := c0
    rw [h0, if_neg (by decide)] at hR
    obtain ⟨N, hN⟩ : ∃ N, N = lenL s.data.toList p := ⟨_, rfl⟩
    rw [← hN] at hR
    have hLe : s.extract (A + 1) (A + 3) = ⟨((s.data.toList.drop (64 * p + 1)).take 2).toArray⟩ := by
      apply ba_ext; rw [ba_cut, HA.out, show 64 * p + 3 - (64 * p + 1) = 2 by omega]
    have hEs : (s.extract (A + 1) (A + 3)).size = 2 := by rw [ByteArray.size_extract]; omega
    have GE := Box.mk (cget_any (s.extract (A + 1) (A + 3)) (by omega) w)
    rw [show num (s.extract (A + 1) (A + 3)) = N by rw [hN]; unfold num lenL; rw [hLe]] at GE
    have hN16 : N < 65536 := by
      rw [hN]; unfold lenL
      have := leNat_lt ((s.data.toList.drop (64 * p + 1)).take 2)
      have h2 : ((s.data.toList.drop (64 * p + 1)).take 2).length = 2 := by rw [List.length_take, List.length_drop]; omega
      rw [h2] at this; exact this
    have PG := Box.mk (pages_any N (by omega) w)
    obtain ⟨M, hM⟩ : ∃ M, M = pgs N := ⟨_, rfl⟩
    rw [← hM] at hR PG
    have hpp : N ≤ 400 → 1 ≤ M ∧ M ≤ 7 := fun h => by rw [hM]; exact pgs_pos h
    have hp4 : 400 < N → M = 0 := fun h => by rw [hM]; unfold pgs; rw [if_pos h]
    have hNM : 1 ≤ M → N ≤ 60 + 63 * (M - 1) := fun h => by
      rw [hM] at h ⊢; unfold pgs at h ⊢; split at h
      · omega
      · rename_i h4; rw [if_neg h4]; split at h <;> (rename_i h6; first | rw [if_pos h6] | rw [if_neg h6]) <;> omega
    have hM7 : M ≤ 7 := by
      rcases Nat.lt_or_ge 400 N with h | h
      · rw [hp4 h]; omega
      · exact (hpp h).2
    have HNM := Box.mk hNM
    have hR0 := Box.mk hR
    clear hR h0 hpp hp4 hNM hM hN hLe hN16 hEs
    by_cases c1 : M = 0
    · have c1I : ((M : Int) == 0) = true := by rw [beq_iff_eq]; omega
      have HR : Box (R = ([], 0)) := ⟨by rw [hR0.out, if_pos (.inl c1)]⟩
      clear c1
      go_enter Tryz.func71, Tryz.ntmps71
      go_wp2_with fail
      refine GE.out.mono ?_
      rintro e w1 ⟨rfl, rfl⟩
      go_wp2_with fail
      refine PG.out.mono ?_
      rintro e w1 ⟨rfl, rfl⟩
      go_wp2_with fail
      go_ret2
      rw [HR.out]; exact ⟨rfl, rfl⟩
    · have c1I : ((M : Int) == 0) = false := by rw [beq_eq_false_iff_ne]; omega
      by_cases c2 : 8 < p + M
      · have c2I : decide (8 < (p : Int) + (M : Int)) = true := by rw [decide_eq_true_eq]; omega
        have HR : Box (R = ([], 0)) := ⟨by rw [hR0.out, if_pos (.inr c2)]⟩
        clear c2 c1
        go_enter Tryz.func71, Tryz.ntmps71
        go_wp2_with fail
        refine GE.out.mono ?_
        rintro e w1 ⟨rfl, rfl⟩
        go_wp2_with fail
        refine PG.out.mono ?_
        rintro e w1 ⟨rfl, rfl⟩
        go_wp2_with fail
        go_ret2
        rw [HR.out]; exact ⟨rfl, rfl⟩
      · have c2I : decide (8 < (p : Int) + (M : Int)) = false := by rw [decide_eq_false_iff_not]; omega
        have HR : Box (R = if runB (goesL s.data.toList p) (M - 1) < M - 1 then ([], 0) else ((bodyL s.data.toList p M).take N, M)) := ⟨by rw [hR0.out, if_neg (by omega)]⟩
        have HPM := Box.mk (show 1 ≤ M ∧ p + M ≤ 8 from ⟨by omega, by omega⟩)
        have HSL := Box.mk hSl
        obtain ⟨B1, hB1⟩ : ∃ x : ByteArray, x = s.extract (A + 4) (A + 64) := ⟨_, rfl⟩
        have HB1 : Box (B1 = ⟨(bodyL s.data.toList p 1).toArray⟩) := ⟨by
          rw [hB1]; apply ba_ext; rw [ba_cut, HA.out, show 64 * p + 64 - (64 * p + 4) = 60 by omega]; rfl⟩
        clear c2 c1 hR0 hSl
        go_enter Tryz.func71, Tryz.ntmps71
        go_wp2_with fail
        refine GE.out.mono ?_
        rintro e w1 ⟨rfl, rfl⟩
        go_wp2_with fail
        refine PG.out.mono ?_
        rintro e w1 ⟨rfl, rfl⟩
        go_wp2_with fail
        rw [← hB1]
        clear hB1 hA4 hA0 hA3 hx0 hx3 hA c1I c2I PG GE
        go_loopw [6, 10, 11] (fun a o i wr => ∃ j : Nat, 1 ≤ j ∧ j ≤ M ∧ i = .int .i64 (j : Nat) ∧ a = .int .i64 ((64 * (p + j - 1) : Nat) : Int) ∧ o = .string ⟨(bodyL s.data.toList p j).toArray⟩ ∧ (∀ k, k < j - 1 → goesL s.data.toList p k = true) ∧ w = wr) (fun _ _ i _ => M - (intOf i).toNat)
        case atStart => exact ⟨1, Nat.le_refl _, HPM.out.1, rfl, int_congr (by rw [HA.out]; omega), by rw [HB1.out], fun k hk => by omega, rfl⟩
        case round =>
          obtain ⟨j, h1, hj, rfl, rfl, rfl, hg, rfl⟩ := hrel
          have hpm := HPM.out
          have HG := Box.mk hg
          have hbl := bodyL_len s.data.toList p j h1 (by rw [HSL.out]; omega)
          clear hg
          by_cases hlt : j < M
          · have hltI : (j : Int) < (M : Int) := by omega
            obtain ⟨a1, ha1, HA1⟩ : ∃ x : Nat, IntKind.i64.wrap (((64 * (p + j - 1) : Nat) : Int) + 64) = (x : Int) ∧ Box (x = 64 * (p + j)) := ⟨64 * (p + j), by rw [IntKind.wrap_i64]; omega, ⟨rfl⟩⟩
            have hb1 : a1 + 64 ≤ s.size := by have := HA1.out; omega
            have hb0 : a1 < s.size := by omega
            obtain ⟨y, hy⟩ : ∃ x, (s[a1]'hb0).toNat = x := ⟨_, rfl⟩
            have hgo : goesL s.data.toList p (j - 1) = decide (y = 2) := by
              unfold goesL
              rw [show 64 * (p + 1 + (j - 1)) = a1 by have := HA1.out; omega, ba_at s a1 hb0, ← hy, Bool.eq_iff_iff, beq_iff_eq, decide_eq_true_iff]
              exact ⟨fun h => by rw [h]; rfl, fun h => UInt8.toNat_inj.1 h⟩
            obtain ⟨a0, ha0⟩ : ∃ x, x = 64 * (p + j - 1) := ⟨_, rfl⟩
            rw [← ha0] at ha1 ⊢
            have HA0 := Box.mk ha0
            clear ha0
            by_cases c3 : y = 2
            · subst c3
              have hz : ¬ 9223372036854775807 < 60 + 63 * (j - 1) + 63 := by omega
              go_wp2_with fail
              refine ⟨⟨j + 1, by omega, hlt, by go_num, int_congr (by rw [HA1.out]; omega), ?_, fun k hk => ?_, trivial⟩, by simp [intOf]; omega⟩
              · congr 1
                apply ba_ext
                rw [ByteArray.data_append, Array.toList_append, ba_cut, HA1.out]
                obtain ⟨i, rfl⟩ : ∃ i, j = i + 1 := ⟨j - 1, by omega⟩
                show bodyL s.data.toList p (i + 1) ++ _ = bodyL s.data.toList p (i + 1) ++ _
                rw [show 64 * (p + (i + 1)) + 64 - (64 * (p + (i + 1)) + 1) = 63 by omega]
              · rcases Nat.lt_or_ge k (j - 1) with h | h
                · exact HG.out k h
                · rw [show k = j - 1 by omega, hgo]; rfl
            · have hne : ((y : Int) != 2) = true := by rw [bne_iff_ne]; omega
              have HRR : Box (R = ([], 0)) := ⟨by
                rw [HR.out, runB_spec _ _ (j - 1) (by omega) HG.out (.inr (by rw [hgo, decide_eq_false_iff_not]; exact c3)), if_pos (by omega)]⟩
              clear c3 hgo
              go_wp2_with fail
              go_ret2
              rw [HRR.out]; exact ⟨rfl, rfl⟩
          · have hltI : ¬ (j : Int) < (M : Int) := by omega
            obtain rfl : j = M := by omega
            have HRR : Box (R = ((bodyL s.data.toList p j).take N, j)) := ⟨by
              rw [HR.out, runB_spec _ _ (j - 1) (Nat.le_refl _) HG.out (.inl rfl), if_neg (by omega)]⟩
            obtain ⟨X, hX⟩ : ∃ X : ByteArray, X = ⟨(bodyL s.data.toList p j).toArray⟩ := ⟨_, rfl⟩
            have hXs : N ≤ X.size := by
              rw [hX]; show N ≤ (bodyL s.data.toList p j).toArray.size
              rw [List.size_toArray, hbl]; exact HNM.out h1
            have hXt : Box (X.extract 0 N = ⟨((bodyL s.data.toList p j).take N).toArray⟩) := ⟨by
              apply ba_ext; rw [ba_cut, hX]; simp⟩
            rw [← hX]
            clear hX hbl
            go_wp2_with fail
            go_ret2
            rw [HRR.out, ← hXt.out]; exact ⟨rfl, rfl⟩
  · have HR : Box (R = ([], 0)) := ⟨by rw [hR, h0, if_pos (by rw [decide_eq_false_iff_not]; exact c0)]⟩
    clear hR h0
    by_cases c1 : x0 = 1
    · have c3 : ¬ x3 = 0 := fun h => c0 ⟨c1, h⟩
      have c3I : ((x3 : Int) != 0) = true := by rw [bne_iff_ne]; omega
      have c1I : ((x0 : Int) != 1) = false := by rw [bne_eq_false_iff_eq]; omega
      clear c0 c1 c3
      go_enter Tryz.func71, Tryz.ntmps71
      go_wp2_with fail
      go_ret2
      rw [HR.out]; exact ⟨rfl, rfl⟩
    · have c1I : ((x0 : Int) != 1) = true := by rw [bne_iff_ne]; omega
      clear c0 c1
      go_enter Tryz.func71, Tryz.ntmps71
      go_wp2_with fail
      go_ret2
      rw [HR.out]; exact ⟨rfl, rfl⟩
end Go.Proofs.YtjednaendedpdaaGreat
namespace Go.Proofs.YtjednaendedpdaaGreat
set_option maxRecDepth 100000
set_option linter.unusedVariables false
open Go Go.RowKit

theorem rec1_any (x y : Int) (b : Nat) (num : Int) (w : World) (hb : w.cell? ⟨b, 0, none⟩ = some (.int .i64 num)) :
    Calls Tryz.prog 70 #[.agg #[.int .i64 x, .int .i64 y], .pointer (some ⟨b, 0, none⟩)] w fun e w' => e = .returned (.bool (y == num)) ∧ Below w.heap.size w w' := by
  have hb1 := cellA (.cells #[.int .i64 x, .int .i64 y] 78) hb
  go_enter Tryz.func70, Tryz.ntmps70
  go_wp2
  go_ret
  exact ⟨rfl, (Below.refl _ _).alloc (Nat.le_refl _) _⟩
/-- Where a segment with a number stands. -/
def IdxOf (l : List (Nat × Nat)) (num k : Int) : Prop := (k = -1 ∧ ∀ x ∈ l, (x.2 : Int) ≠ num) ∨ ∃ (i : Nat) (x : Nat × Nat), k = (i : Int) ∧ l[i]? = some x ∧ (x.2 : Int) = num ∧ ∀ j y, j < i → l[j]? = some y → (y.2 : Int) ≠ num
set_option maxHeartbeats 1000000 in
theorem sidx_any (gs cap : Nat) (l : List (Nat × Nat)) (b : Nat) (num : Int) (w : World) (hl : l.length ≤ 1000) (hb : w.cell? ⟨b, 0, none⟩ = some (.int .i64 num)) (hbl : b < w.heap.size) (hgl : gs < w.heap.size)
    (hc : ∀ j s, l[j]? = some s → w.cell? ⟨gs, j * 2, none⟩ = some (.int .i64 (s.1 : Int)) ∧ w.cell? ⟨gs, j * 2 + 1, none⟩ = some (.int .i64 (s.2 : Int))) :
    Calls Tryz.prog 69 #[.slice (some ⟨gs, 0, none⟩) l.length cap, .func (.func 70) #[] #[.pointer (some ⟨b, 0, none⟩)]] w fun e w' => ∃ k, e = .returned (.int .i64 k) ∧ IdxOf l num k ∧ Below w.heap.size w w' := by
  go_enter Tryz.func69, Tryz.ntmps69
  go_wp2_with fail
  go_loopw [8, 5] (fun i _ wr => ∃ j : Nat, j ≤ l.length ∧ i = .int .i64 (j : Nat) ∧ (∀ k y, k < j → l[k]? = some y → (y.2 : Int) ≠ num) ∧ Below w.heap.size w wr) (fun i _ _ => l.length - (intOf i).toNat)
  case atStart => exact ⟨0, by omega, rfl, fun k y hk => by omega, Below.refl _ _⟩
  case round =>
    obtain ⟨j, hj, rfl, hno, hbw⟩ := hrel
    have HNO := Box.mk hno; have HBW := Box.mk hbw
    by_cases hlt : j < l.length
    · have hltI : (j : Int) < (l.length : Int) := by omega
      obtain ⟨x, hx⟩ : ∃ x, l[j]? = some x := ⟨_, List.getElem?_eq_getElem hlt⟩
      obtain ⟨s0, s1⟩ := hc j x hx
      have c0 := (hbw.cell (p := ⟨gs, j * 2, none⟩) hgl).trans s0
      have c1 := (hbw.cell (p := ⟨gs, j * 2 + 1, none⟩) hgl).trans s1
      have R1 := Box.mk (rec1_any (x.1 : Int) (x.2 : Int) b num wr ((hbw.cell (p := ⟨b, 0, none⟩) hbl).trans hb))
      have HX := Box.mk hx; have HL := Box.mk hlt
      clear hno hbw s0 s1 hx hlt
      by_cases hn : (x.2 : Int) = num
      · have hnb : ((x.2 : Int) == num) = true := by rw [beq_iff_eq]; exact hn
        rw [hnb] at R1
        have HN := Box.mk hn
        clear hn hnb
        go_wp2_with fail
        refine R1.out.mono ?_
        rintro e w1 ⟨rfl, hb1⟩
        have B1 := Box.mk (HBW.out.trans (hb1.mono HBW.out.size))
        clear hb1
        go_wp2_with fail
        go_ret
        exact ⟨_, rfl, .inr ⟨j, x, rfl, HX.out, HN.out, HNO.out⟩, B1.out⟩
      · have hnb : ((x.2 : Int) == num) = false := by rw [beq_eq_false_iff_ne]; exact hn
        rw [hnb] at R1
        have HN := Box.mk hn
        clear hn hnb
        go_wp2_with fail
        refine R1.out.mono ?_
        rintro e w1 ⟨rfl, hb1⟩
        have B1 := Box.mk (HBW.out.trans (hb1.mono HBW.out.size))
        clear hb1
        go_wp2_with fail
        exact ⟨⟨j + 1, HL.out, by go_num, fun k y hk hy => by
          rcases Nat.lt_succ_iff_lt_or_eq.1 hk with h | rfl
          · exact HNO.out k y h hy
          · rw [HX.out] at hy; cases hy; exact HN.out, B1.out⟩, by have := HL.out; simp [intOf]; omega⟩
    · have hltI : ¬ (j : Int) < (l.length : Int) := by omega
      obtain rfl : j = l.length := by omega
      clear hno hbw
      go_wp2_with fail
      go_ret
      exact ⟨_, rfl, .inl ⟨rfl, fun y hy => by
        obtain ⟨k, hk, hk2⟩ := List.mem_iff_getElem.1 hy
        exact HNO.out k y hk (by rw [List.getElem?_eq_getElem hk, hk2])⟩, HBW.out⟩
theorem Upd.below9 {a b : World} (u : Upd [] a b) : Below a.heap.size a b := ⟨u.os, u.tape, u.output, u.size, fun i hi => u.block i hi (by simp)⟩
theorem recs_fuel (s : List UInt8) : ∀ (n f p : Nat), f ≤ n → 8 ≤ f + p → recsFrom s f p = recsFrom s (8 - p) p
  | n, 0, p, _, h => by rw [show 8 - p = 0 by omega]
  | 0, f + 1, p, h1, _ => by omega
  | n + 1, f + 1, p, h1, h => by
    by_cases hp : p < 8
    · rw [show 8 - p = (7 - p) + 1 by omega, recsFrom, recsFrom, if_pos hp, if_pos hp]
      split
      · rw [recs_fuel s n f (p + 1) (by omega) (by omega), show 8 - (p + 1) = 7 - p by omega]
      · rename_i hr
        have hr0 : 0 < (recL s p).2 := Nat.pos_of_ne_zero hr
        rcases Nat.lt_or_ge n (7 - p) with hlt | hge
        · exact absurd hlt (by omega)
        · rw [recs_fuel s n f (p + (recL s p).2) (by omega) (by omega), recs_fuel s n (7 - p) (p + (recL s p).2) hge (by omega)]
    · rw [show 8 - p = 0 by omega]
      show (if p < 8 then _ else []) = _
      rw [if_neg hp]; rfl
/-- What Records leaves. -/
def LRec (w : World) (V : Except Int (List (List UInt8))) (e : Ending) (w' : World) : Prop :=
  match V with
  | .error x => e = .returned (.tuple #[.slice none 0 0, .int .i64 x])
  | .ok rs => ∃ v, e = .returned (.tuple #[v, .int .i64 0]) ∧ w'.ownsRow w.heap.size 9 1 v rs.length (rs.map fun r => .string ⟨r.toArray⟩)
set_option maxHeartbeats 4000000 in
theorem lrecords_any (g q p bb cb : Nat) (F B : Nat) (v : Value) (s : FS) (l : LS) (num : Int) (w : World) (h : LgS w (F : Nat) (B : Nat) g q p bb cb v s l) (hk : l.Ok B) :
    Calls Tryz.prog 38 #[.pointer (some ⟨g, 0, none⟩), .int .i64 num] w fun e w' => LRec w (s.lrecs F l num) e w' ∧ LgS w' (F : Nat) (B : Nat) g q p bb cb v s l ∧ Below w.heap.size w w' := by
  have hB : B ≤ 256 := by have h1 := h.i.hi; have h2 := h.i.lo; have h3 := h.i.few; omega
  have hfew := hk.few
  obtain ⟨R, hR⟩ : ∃ R, R = s.lrecs F l num := ⟨_, rfl⟩
  rw [← hR]
  unfold FS.lrecs at hR
  obtain ⟨gs, cap, rfl, hs⟩ := h.lg.seg hk.ne
  have hgs : gs < w.heap.size := (World.ownsRow.lt h.lg.own gs rfl).2
  obtain ⟨W, hW⟩ : ∃ W, W = w.alloc (.cells #[.int .i64 num] 3) := ⟨_, rfl⟩
  have hWc : W.cell? ⟨w.heap.size, 0, none⟩ = some (.int .i64 num) := by rw [hW, cell_of_row _ _ _ _ _ _ (heap_alloc_new _ _)]; rfl
  have bW : Below w.heap.size w W := by rw [hW]; exact (Below.refl _ _).alloc (Nat.le_refl _) _
  have hWs : W.heap.size = w.heap.size + 1 := by rw [hW]; simp
  have H0 := Box.mk h
  have H := Box.mk (h.keep (Upd.of_below bW))
  obtain ⟨c0, c1, c2⟩ := H.out.lg.cells
  have IX := Box.mk (sidx_any gs cap l.segs w.heap.size num W (by omega) hWc (by omega) (by omega) (fun j x hj => by
    obtain ⟨a, b⟩ := hs j x hj
    exact ⟨(bW.cell (p := ⟨gs, _, none⟩) hgs).trans a, (bW.cell (p := ⟨gs, _, none⟩) hgs).trans b⟩))
  have BW := Box.mk bW; have HWS := Box.mk hWs
  clear hWc hgs hs bW hWs
  go_enter Tryz.func38, Tryz.ntmps38
  go_upto_region 1 with (fail)
  rw [← hW]
  clear hW
  go_wp2_with fail
  refine IX.out.mono ?_
  rintro e w1 ⟨k, rfl, hix, hb1⟩
  have B1 := Box.mk (BW.out.trans (hb1.mono BW.out.size))
  have H1 := Box.mk (H.out.keep (Upd.of_below hb1))
  clear hb1 IX c0 c1 c2
  obtain ⟨c0, c1, c2⟩ := H1.out.lg.cells
  rcases hix with ⟨rfl, hno⟩ | ⟨i, x, rfl, hx, hxn, hno⟩
  · have hf : l.segs.find? (fun x => (x.2 : Int) == num) = none := by
      rw [List.find?_eq_none]; intro x hx; rw [beq_iff_eq]; exact hno x hx
    rw [hf] at hR
    dsimp only at hR
    subst hR
    clear hno hf
    go_wp2_with fail
    go_ret2
    exact ⟨rfl, H1.out, B1.out⟩
  · have hf : l.segs.find? (fun x => (x.2 : Int) == num) = some x := by
      have hil := (List.getElem?_eq_some_iff.1 hx).1
      rw [List.find?_eq_some_iff_append]
      refine ⟨by rw [beq_iff_eq]; exact hxn, l.segs.take i, l.segs.drop (i + 1), ?_, fun y hy => ?_⟩
      · rw [← List.take_append_drop i l.segs]
        congr 1
        · simp
        · rw [List.drop_eq_getElem_cons hil]
          rw [List.getElem?_eq_getElem hil] at hx
          cases hx; simp
      · obtain ⟨j, hj, hj2⟩ := List.mem_iff_getElem.1 hy
        rw [List.length_take] at hj
        have := hno j y (by omega) (by rw [← hj2, List.getElem_take]; exact List.getElem?_eq_getElem _)
        simpa using this
    rw [hf] at hR
    dsimp only at hR
    have hkI : ¬ ((i : Nat) : Int) < 0 := by omega
    have hiI : (i : Int) < (l.segs.length : Int) := by have := (List.getElem?_eq_some_iff.1 hx).1; omega
    have hxB : x.1 < B := hk.blk x (List.mem_of_getElem? hx)
    clear hno hf hxn
    cases hld : l.dead with
    | true =>
      rw [hld] at hR c2
      rw [Bool.true_or, if_pos rfl] at hR
      subst hR
      go_wp2_with fail
      go_ret2
      exact ⟨rfl, H1.out, B1.out⟩
    | false =>
      rw [hld] at hR c2
      rw [Bool.false_or] at hR
      have HR := Box.mk hR
      obtain ⟨A, hA, HA⟩ : ∃ y : Nat, IntKind.i64.wrap ((x.1 : Int) * 512) = (y : Int) ∧ Box (y = 512 * x.1) := ⟨512 * x.1, by rw [IntKind.wrap_i64]; omega, ⟨rfl⟩⟩
      have hA2 : A ≤ 200000 := by have := HA.out; omega
      have PR := Box.mk (fun w (h : LgS w (F : Nat) (B : Nat) g q p bb cb (.slice (some ⟨gs, 0, none⟩) l.segs.length cap) s l) => pread_any q p bb cb (F : Nat) (B : Nat) s (A : Nat) 512 w h.f h.ok h.pa h.i (by omega) (by omega))
      have hpv : preadV s (F : Nat) (B : Nat) (A : Nat) 512 = if s.dead then (⟨#[]⟩, 2) else (⟨(s.blk F x.1).toArray⟩, 0) := by
        have hin : inB (B : Int) (A : Nat) 512 = true := by rw [inB_iff, HA.out]; omega
        unfold preadV FS.blk
        rw [if_pos hin, HA.out, show (512 * (F : Int) + ((512 * x.1 : Nat) : Int)).toNat = 512 * (F + x.1) by omega]; rfl
      have HPV := Box.mk hpv
      have HBL : Box ((s.blk F x.1).length = 512) := ⟨by
        have h1 := h.ok.len; have h2 := h.i.hi
        unfold FS.blk; rw [List.length_take, List.length_drop, h1]; omega⟩
      generalize preadV s (F : Nat) (B : Nat) (A : Nat) 512 = P at PR HPV
      obtain ⟨P1, P2⟩ := P
      dsimp only at PR
      obtain ⟨cur, hcur, htk⟩ : ∃ cur, w1.heap[gs]? = some (.cells cur 78 (0, 0)) ∧ cur.toList.take (l.segs.length * 2) = segC l.segs := by
        rcases H1.out.lg.own.2 with ⟨h, _⟩ | ⟨g', c, cur, hv, _, hqa, _, _, hqb, hqc⟩
        · cases h
        · cases hv; exact ⟨cur, hqa, hqc⟩
      have HGS := Box.mk hcur
      have HX1 : Box (cur[i * 2]? = some (.int .i64 (x.1 : Nat))) := ⟨by
        have h1 := (segC_at l.segs i x hx).1
        rw [← htk, List.getElem?_take, Nat.mul_comm] at h1
        split at h1
        · simpa using h1
        · cases h1⟩
      obtain ⟨n, hn⟩ : ∃ n, n = l.segs.length := ⟨_, rfl⟩
      have HNn := Box.mk hn
      rw [← hn] at c1 hiI H1 PR ⊢
      obtain ⟨x1, x2⟩ := x
      dsimp only at hA HX1 HPV HBL HR
      clear hR hx hxB hpv hcur htk hn h hB hfew
      go_upto_region 6 with (fail)
      refine wp_region_mixS [] (fun w => LgS w (F : Nat) (B : Nat) g q p bb cb (.slice (some ⟨gs, 0, none⟩) n cap) s l) (fun w w' hg h => h.keep hg.upd) (H1.out.keep (Upd.refl [] w1).drew) ((by simp)) 18 [.flo, .flo, .flo, .flo, .flo, .flo, .flo, .flo, .flo, .flo, .flo, .flo, .flo, .cha, .flo, .flo, .flo, .flo] (by kernel_rfl) (by kernel_rfl) rfl ?_
      simp only [List.take, List.zip, List.zipWith]
      try go_frame
      refine gm_move (.tmp 0) (.inl rfl) (.pointer (some ⟨g, 0, none⟩)) rfl ?_
      try go_frame
      refine gm_flo (.pointer (some ⟨g, 0, none⟩)) (fun w1 hw1 => ?_) ?_
      case refine_1 =>
        go_simp
      try go_frame
      refine gm_flo (.pointer (some ⟨g, 0, none⟩)) (fun w1 hw1 => ?_) ?_
      case refine_1 =>
        go_simp
      try go_frame
      refine gm_flo (.pointer (some ⟨q, 0, none⟩)) (fun w1 hw1 => ?_) ?_
      case refine_1 =>
        have e1 : w1.cell? ⟨g, 0, none⟩ = some (.pointer (some ⟨q, 0, none⟩)) := (cell_of_row _ _ _ _ _ _ (hw1.at ((by simp)) H1.out.lg.row)).trans rfl
        go_simp
      try go_frame
      refine gm_move (.tmp 0) (.inl rfl) (.pointer (some ⟨g, 0, none⟩)) rfl ?_
      try go_frame
      refine gm_flo (.pointer (some ⟨g, 0, none⟩)) (fun w1 hw1 => ?_) ?_
      case refine_1 =>
        go_simp
      try go_frame
      refine gm_flo (.pointer (some ⟨g, 1, none⟩)) (fun w1 hw1 => ?_) ?_
      case refine_1 =>
        go_simp
      try go_frame
      refine gm_flo (.slice (some ⟨gs, 0, none⟩) n cap) (fun w1 hw1 => ?_) ?_
      case refine_1 =>
        have e1 : w1.cell? ⟨g, 1, none⟩ = some (.slice (some ⟨gs, 0, none⟩) n cap) := (cell_of_row _ _ _ _ _ _ (hw1.at ((by simp)) H1.out.lg.row)).trans rfl
        go_simp
      try go_frame
      refine gm_move (.tmp 6) (.inl rfl) (.int .i64 (i : Nat)) rfl ?_
      try go_frame
      refine gm_flo (.pointer (some ⟨gs, i * 2, none⟩)) (fun w1 hw1 => ?_) ?_
      case refine_1 =>
        go_simp
      try go_frame
      refine gm_flo (.pointer (some ⟨gs, i * 2, none⟩)) (fun w1 hw1 => ?_) ?_
      case refine_1 =>
        go_simp
      try go_frame
      refine gm_flo (.int .i64 (x1 : Nat)) (fun w1 hw1 => ?_) ?_
      case refine_1 =>
        have e1 : w1.cell? ⟨gs, i * 2, none⟩ = some (.int .i64 (x1 : Nat)) := (cell_of_row _ _ _ _ _ _ (hw1.at (by simp) HGS.out)).trans HX1.out
        go_simp
      try go_frame
      refine gm_flo (.int .i64 (A : Nat)) (fun w1 hw1 => ?_) ?_
      case refine_1 =>
        go_simp
      try go_frame
      refine gm_callS [.pointer (some ⟨q, 0, none⟩), .int .i64 (A : Nat), .int .i64 512] (by kernel_rfl) rfl rfl (fun w1 hw1 hF1 => (PR.out w1 hF1).mono ?_)
      rintro e w2 ⟨rfl, rfl⟩
      refine ⟨_, rfl, GrS.refl _ _, (fun w => LgS w (F : Nat) (B : Nat) g q p bb cb (.slice (some ⟨gs, 0, none⟩) n cap) s l), (fun w w' hg h => h.keep hg.upd), hF1, ?_⟩
      clear hw1 hF1 w1
      try go_frame
      refine gm_move (.tmp 39) (.inl rfl) (.tuple #[.string P1, .int .i64 P2]) rfl ?_
      try go_frame
      refine gm_extract (vs := #[.string P1, .int .i64 P2]) (.tmp 25) 0 rfl rfl (.string P1) rfl ?_
      try go_frame
      refine gm_extract (vs := #[.string P1, .int .i64 P2]) (.tmp 25) 1 rfl rfl (.int .i64 P2) rfl ?_
      try go_frame
      refine gm_move (.tmp 40) (.inr rfl) (.string P1) rfl ?_
      try go_frame
      refine gm_nil ?_
      intro w9 hw9 hF9
      simp only [List.drop]
      try go_frame
      have H9 := Box.mk hF9; have B9 := Box.mk (B1.out.trans (((Below.refl _ _).drew.trans (Upd.below9 hw9.upd)).mono B1.out.size))
      clear hF9 hw9
      cases hsd : s.dead with
      | true =>
        have hr := HR.out
        rw [hsd, if_pos rfl] at hr
        subst hr
        have hp := HPV.out
        rw [hsd, if_pos rfl] at hp
        cases hp
        clear hsd
        go_wp2_with fail
        go_ret2
        exact ⟨rfl, by rw [← HNn.out]; exact H9.out, B9.out⟩
      | false =>
        have hr := HR.out
        rw [hsd, if_neg (by decide)] at hr
        subst hr
        have hp := HPV.out
        rw [hsd, if_neg (by decide)] at hp
        cases hp
        clear hsd
        obtain ⟨S, hS⟩ : ∃ S, S = s.blk F x1 := ⟨_, rfl⟩
        have HSb := Box.mk hS
        rw [← hS] at HBL ⊢
        have RC := Box.mk (fun p (hp : p < 8) w => record_any ⟨S.toArray⟩ (by show S.toArray.size = 512; rw [List.size_toArray]; exact HBL.out) p hp w)
        have hSd : (⟨S.toArray⟩ : ByteArray).data.toList = S := rfl
        rw [hSd] at RC
        obtain ⟨SB, hSB⟩ : ∃ SB : ByteArray, SB = ⟨S.toArray⟩ := ⟨_, rfl⟩
        rw [← hSB] at RC ⊢
        clear hS hSB hSd PR HPV HBL HGS HX1 c0 c1 c2 HR
        go_wp2_with fail
        go_loopw [9, 10, 11, 12] (fun o pv _ _ wr => ∃ (y : Nat) (rs : List (List UInt8)), 1 ≤ y ∧ y ≤ 8 ∧ pv = .int .i64 (y : Nat) ∧ rs.length ≤ y ∧ wr.ownsRow w.heap.size 9 1 o rs.length (rs.map fun r => .string ⟨r.toArray⟩) ∧ recsL S = rs ++ recsFrom S (8 - y) y ∧ Below w.heap.size w wr) (fun _ pv _ _ _ => 8 - (intOf pv).toNat)
        case atStart =>
          exact ⟨1, [], Nat.le_refl _, by omega, rfl, by simp, World.ownsRow_nil _ _ _ _, by rw [List.nil_append]; exact recs_fuel S 8 8 1 (Nat.le_refl _) (by omega), B9.out⟩
        case round =>
          clear H9 B9
          obtain ⟨y, rs, h1, h8, rfl, hrl, hown, hrs, hb⟩ := hrel
          have HOWN := Box.mk hown; have HRS := Box.mk hrs; have HB := Box.mk hb
          clear hown hrs hb
          by_cases hlt : y < 8
          · have hltI : (y : Int) < 8 := by omega
            have RCy := Box.mk (RC.out y hlt wr)
            have HST : Box (recsFrom S (8 - y) y = if (recL S y).2 = 0 then recsFrom S (8 - (y + 1)) (y + 1) else (recL S y).1 :: recsFrom S (8 - (y + (recL S y).2)) (y + (recL S y).2)) := ⟨by
              rw [show 8 - y = (8 - (y + 1)) + 1 by omega, recsFrom, if_pos hlt]
              split
              · rfl
              · rename_i hr
                rw [recs_fuel S 8 (8 - (y + 1)) (y + (recL S y).2) (by omega) (by have := Nat.pos_of_ne_zero hr; omega)]⟩
            have HLE : Box ((recL S y).2 ≠ 0 → y + (recL S y).2 ≤ 8) := ⟨fun h => (recL_at h).le⟩
            generalize recL S y = r at RCy HST HLE
            obtain ⟨r1, r2⟩ := r
            dsimp only at RCy HST HLE
            have HL := Box.mk hlt
            by_cases hr : r2 = 0
            · have hrI : ¬ 0 < (r2 : Int) := by omega
              have hrM : max 1 (r2 : Int) = 1 := by omega
              have hst := HST.out
              rw [if_pos hr] at hst
              have HST := Box.mk hst
              clear hst hr hlt
              go_wp2_with fail
              refine RCy.out.mono ?_
              rintro e w5 ⟨rfl, rfl⟩
              go_wp2_with fail
              exact ⟨⟨y + 1, rs, by omega, HL.out, by go_num, by omega, HOWN.out, by rw [HRS.out, HST.out], HB.out⟩, by have := HL.out; simp [intOf]; omega⟩
            · have hrI : 0 < (r2 : Int) := by omega
              have hrM : max 1 (r2 : Int) = (r2 : Int) := by omega
              have hst := HST.out
              rw [if_neg hr] at hst
              have hle := HLE.out hr
              have HST := Box.mk hst; have HR0 := Box.mk hr
              have S9 := Box.mk HB.out.size
              obtain ⟨i0, hi0, hz0, hsz0, hby0⟩ := info_parts info_str
              have RR : Box (∀ k u, [Value.string ⟨r1.toArray⟩][k]? = some u → (wr.alloc (.cells #[.string ⟨r1.toArray⟩] 9)).cell? ((⟨wr.heap.size, 0, none⟩ : Addr).add k) = some u) := ⟨fun k u hk => by
                match k, hk with
                | 0, hk => simp at hk; subst hk; show (wr.alloc _).cell? ⟨_, 0 + 0, none⟩ = _; rw [cell_of_row _ _ _ _ _ _ (heap_alloc_new _ _)]; rfl
                | k + 1, hk => simp at hk⟩
              clear hst hr hlt
              go_wp2_with fail
              refine RCy.out.mono ?_
              rintro e w5 ⟨rfl, rfl⟩
              go_wp2_with (at_builtin; refine wpList_append_own _ rfl (.tmp 55) (.tmp 57) 51 rfl w.heap.size 9 i0 (.string ⟨#[]⟩) 1 16 Tryz.underlying51 hi0 hz0 hsz0 hby0 rfl (by decide) _ rs.length _ rfl (own_alloc HOWN.out _) ⟨wr.heap.size, 0, none⟩ 1 1 [.string ⟨r1.toArray⟩] rfl rfl RR.out (fun u hu => by simp at hu; subst hu; rfl) (by unfold maxLen; omega) (by omega) (by have := S9.out; simp; omega) ?_; intro v' w' hown' hgrow hnil)
              have e1 : (y : Int) + (if 1 < (r2 : Int) then (r2 : Int) else 1) = ((y + r2 : Nat) : Int) := by split <;> omega
              rw [e1]
              refine ⟨⟨y + r2, rs ++ [r1], by omega, hle, rfl, by rw [List.length_append, List.length_singleton]; omega, by rw [List.length_append, List.length_singleton, List.map_append]; exact hown', by rw [HRS.out, HST.out, List.append_assoc]; rfl, ?_⟩, by have := HL.out; simp [intOf]; omega⟩
              exact ((HB.out.alloc HB.out.size _).grown hgrow (by have := HB.out.size; simp; omega) (fun k e => (World.ownsRow.lt HOWN.out k e).1))
          · have hltI : ¬ (y : Int) < 8 := by omega
            have HE : Box (recsL S = rs) := ⟨by rw [HRS.out, show 8 - y = 0 by omega]; simp [recsFrom]⟩
            clear hlt
            go_wp2_with fail
            go_ret2
            refine ⟨?_, H0.out.keep (Upd.of_below HB.out), HB.out⟩
            rw [← HSb.out, HE.out]
            exact ⟨_, rfl, HOWN.out⟩
end Go.Proofs.YtjednaendedpdaaGreat
