/- Logs: record. The document of logs: Get, Pages, Laid. The document of logs: stands. Logs: Segs: a range over a function. The document of logs: Nums, Free, Room. Logs: slices.Clone, slices.Delete of segments; drop. -/
import Derived.Test.YtjednaendedpdaaGreatM06
import Derived.Test.YtjednaendedpdaaGreatM09
import Derived.RangeFuncBox
import Derived.RangeFuncLeaves
import Derived.RangeFuncNested
import Derived.RangeFuncBound
import Derived.RangeFuncCalls
import Derived.Shelf.Abstract
import Derived.OwnWalkIn
import Derived.TacticsInMore
import Derived.LoopNIn
import Derived.LoopIn
import Derived.Maps.AppendAt
import Derived.Lib.SliceRun
namespace Go.Proofs.YtjednaendedpdaaGreat
set_option maxRecDepth 100000
set_option linter.unusedVariables false
open Go Go.RowKit

theorem ba_at (s : ByteArray) (k : Nat) (h : k < s.size) : s.data.toList.getD k 0 = s[k] := by
  rw [List.getD_eq_getElem?_getD, List.getElem?_eq_getElem (by simpa using h)]; simp; rfl
theorem bodyL_len (S : List UInt8) (p : Nat) : ∀ m, 1 ≤ m → 64 * (p + m) ≤ S.length → (bodyL S p m).length = 60 + 63 * (m - 1)
  | 0, h, _ => by omega
  | 1, _, h => by rw [bodyL, List.length_take, List.length_drop]; omega
  | m + 2, _, h => by
    show (bodyL S p (m + 1) ++ _).length = _
    rw [List.length_append, bodyL_len S p (m + 1) (by omega) (by omega), List.length_take, List.length_drop]; omega
set_option maxHeartbeats 4000000 in
theorem record_any (s : ByteArray) (hs : s.size = 512) (p : Nat) (hp : p < 8) (w : World) :
    Calls Tryz.prog 71 #[.string s, .int .i64 (p : Nat)] w fun e w' => e = .returned (.tuple #[.string ⟨(recL s.data.toList p).1.toArray⟩, .int .i64 ((recL s.data.toList p).2 : Nat)]) ∧ w = w' := by
  obtain ⟨R, hR⟩ : ∃ R, R = recL s.data.toList p := ⟨_, rfl⟩
  rw [← hR]
  unfold recL at hR
  have hSl : s.data.toList.length = 512 := by rw [← hs]; simp
  obtain ⟨A, hA, HA⟩ : ∃ x : Nat, IntKind.i64.wrap ((p : Int) * 64) = (x : Int) ∧ Box (x = 64 * p) := ⟨64 * p, by rw [IntKind.wrap_i64]; omega, ⟨rfl⟩⟩
  have hA4 : A + 64 ≤ s.size := by have := HA.out; omega
  have hA0 : A < s.size := by omega
  have hA3 : A + 3 < s.size := by omega
  obtain ⟨x0, hx0⟩ : ∃ x, (s[A]'hA0).toNat = x := ⟨_, rfl⟩
  obtain ⟨x3, hx3⟩ : ∃ x, (s[A + 3]'hA3).toNat = x := ⟨_, rfl⟩
  have h0 : hdrL s.data.toList p = decide (x0 = 1 ∧ x3 = 0) := by
    unfold hdrL
    rw [← HA.out, ba_at s A hA0, ba_at s (A + 3) hA3, ← hx0, ← hx3, Bool.eq_iff_iff, Bool.and_eq_true, beq_iff_eq, beq_iff_eq, decide_eq_true_iff]
    constructor
    · rintro ⟨h1, h2⟩; rw [h1, h2]; exact ⟨rfl, rfl⟩
    · rintro ⟨h1, h2⟩; exact ⟨UInt8.toNat_inj.1 h1, UInt8.toNat_inj.1 h2⟩
  by_cases c0 : x0 = 1 ∧ x3 = 0
  · obtain ⟨rfl, rfl⟩ := c0
    rw [h0, if_neg (by decide)] at hR
    obtain ⟨N, hN⟩ : ∃ N, N = lenL s.data.toList p := ⟨_, rfl⟩
    rw [← hN] at hR
    have hLe : s.extract (A + 1) (A + 3) = ⟨((s.data.toList.drop (64 * p + 1)).take 2).toArray⟩ := by
      apply ba_ext; rw [ba_cut, HA.out, show 64 * p + 3 - (64 * p + 1) = 2 by omega]
    have hEs : (s.extract (A + 1) (A + 3)).size = 2 := by rw [ByteArray.size_extract]; omega
    have GE := Box.mk (cget_any (s.extract (A + 1) (A + 3)) (by omega) w)
    rw [show num (s.extract (A + 1) (A + 3)) = N by rw [hN]; unfold num lenL; rw [hLe]] at GE
    have hN16 : N < 65536 := by
      rw [hN]; unfold lenL
      have := leNat_lt ((s.data.toList.drop (64 * p + 1)).take 2)
      have h2 : ((s.data.toList.drop (64 * p + 1)).take 2).length = 2 := by rw [List.length_take, List.length_drop]; omega
      rw [h2] at this; exact this
    have PG := Box.mk (pages_any N (by omega) w)
    obtain ⟨M, hM⟩ : ∃ M, M = pgs N := ⟨_, rfl⟩
    rw [← hM] at hR PG
    have hpp : N ≤ 400 → 1 ≤ M ∧ M ≤ 7 := fun h => by rw [hM]; exact pgs_pos h
    have hp4 : 400 < N → M = 0 := fun h => by rw [hM]; unfold pgs; rw [if_pos h]
    have hNM : 1 ≤ M → N ≤ 60 + 63 * (M - 1) := fun h => by
      rw [hM] at h ⊢; unfold pgs at h ⊢; split at h
      · omega
      · rename_i h4; rw [if_neg h4]; split at h <;> (rename_i h6; first | rw [if_pos h6] | rw [if_neg h6]) <;> omega
    have hM7 : M ≤ 7 := by
      rcases Nat.lt_or_ge 400 N with h | h
      · rw [hp4 h]; omega
      · exact (hpp h).2
    have HNM := Box.mk hNM
    have hR0 := Box.mk hR
    clear hR h0 hpp hp4 hNM hM hN hLe hN16 hEs
    by_cases c1 : M = 0
    · have c1I : ((M : Int) == 0) = true := by rw [beq_iff_eq]; omega
      have HR : Box (R = ([], 0)) := ⟨by rw [hR0.out, if_pos (.inl c1)]⟩
      clear c1
      go_enter Tryz.func71, Tryz.ntmps71
      go_wp2_with fail
      refine GE.out.mono ?_
      rintro e w1 ⟨rfl, rfl⟩
      go_wp2_with fail
      refine PG.out.mono ?_
      rintro e w1 ⟨rfl, rfl⟩
      go_wp2_with fail
      go_ret2
      rw [HR.out]; exact ⟨rfl, rfl⟩
    · have c1I : ((M : Int) == 0) = false := by rw [beq_eq_false_iff_ne]; omega
      by_cases c2 : 8 < p + M
      · have c2I : decide (8 < (p : Int) + (M : Int)) = true := by rw [decide_eq_true_eq]; omega
        have HR : Box (R = ([], 0)) := ⟨by rw [hR0.out, if_pos (.inr c2)]⟩
        clear c2 c1
        go_enter Tryz.func71, Tryz.ntmps71
        go_wp2_with fail
        refine GE.out.mono ?_
        rintro e w1 ⟨rfl, rfl⟩
        go_wp2_with fail
        refine PG.out.mono ?_
        rintro e w1 ⟨rfl, rfl⟩
        go_wp2_with fail
        go_ret2
        rw [HR.out]; exact ⟨rfl, rfl⟩
      · have c2I : decide (8 < (p : Int) + (M : Int)) = false := by rw [decide_eq_false_iff_not]; omega
        have HR : Box (R = if runB (goesL s.data.toList p) (M - 1) < M - 1 then ([], 0) else ((bodyL s.data.toList p M).take N, M)) := ⟨by rw [hR0.out, if_neg (by omega)]⟩
        have HPM := Box.mk (show 1 ≤ M ∧ p + M ≤ 8 from ⟨by omega, by omega⟩)
        have HSL := Box.mk hSl
        obtain ⟨B1, hB1⟩ : ∃ x : ByteArray, x = s.extract (A + 4) (A + 64) := ⟨_, rfl⟩
        have HB1 : Box (B1 = ⟨(bodyL s.data.toList p 1).toArray⟩) := ⟨by
          rw [hB1]; apply ba_ext; rw [ba_cut, HA.out, show 64 * p + 64 - (64 * p + 4) = 60 by omega]; rfl⟩
        clear c2 c1 hR0 hSl
        go_enter Tryz.func71, Tryz.ntmps71
        go_wp2_with fail
        refine GE.out.mono ?_
        rintro e w1 ⟨rfl, rfl⟩
        go_wp2_with fail
        refine PG.out.mono ?_
        rintro e w1 ⟨rfl, rfl⟩
        go_wp2_with fail
        rw [← hB1]
        clear hB1 hA4 hA0 hA3 hx0 hx3 hA c1I c2I PG GE
        go_loopw [6, 10, 11] (fun a o i wr => ∃ j : Nat, 1 ≤ j ∧ j ≤ M ∧ i = .int .i64 (j : Nat) ∧ a = .int .i64 ((64 * (p + j - 1) : Nat) : Int) ∧ o = .string ⟨(bodyL s.data.toList p j).toArray⟩ ∧ (∀ k, k < j - 1 → goesL s.data.toList p k = true) ∧ w = wr) (fun _ _ i _ => M - (intOf i).toNat)
        case atStart => exact ⟨1, Nat.le_refl _, HPM.out.1, rfl, int_congr (by rw [HA.out]; omega), by rw [HB1.out], fun k hk => by omega, rfl⟩
        case round =>
          obtain ⟨j, h1, hj, rfl, rfl, rfl, hg, rfl⟩ := hrel
          have hpm := HPM.out
          have HG := Box.mk hg
          have hbl := bodyL_len s.data.toList p j h1 (by rw [HSL.out]; omega)
          clear hg
          by_cases hlt : j < M
          · have hltI : (j : Int) < (M : Int) := by omega
            obtain ⟨a1, ha1, HA1⟩ : ∃ x : Nat, IntKind.i64.wrap (((64 * (p + j - 1) : Nat) : Int) + 64) = (x : Int) ∧ Box (x = 64 * (p + j)) := ⟨64 * (p + j), by rw [IntKind.wrap_i64]; omega, ⟨rfl⟩⟩
            have hb1 : a1 + 64 ≤ s.size := by have := HA1.out; omega
            have hb0 : a1 < s.size := by omega
            obtain ⟨y, hy⟩ : ∃ x, (s[a1]'hb0).toNat = x := ⟨_, rfl⟩
            have hgo : goesL s.data.toList p (j - 1) = decide (y = 2) := by
              unfold goesL
              rw [show 64 * (p + 1 + (j - 1)) = a1 by have := HA1.out; omega, ba_at s a1 hb0, ← hy, Bool.eq_iff_iff, beq_iff_eq, decide_eq_true_iff]
              exact ⟨fun h => by rw [h]; rfl, fun h => UInt8.toNat_inj.1 h⟩
            obtain ⟨a0, ha0⟩ : ∃ x, x = 64 * (p + j - 1) := ⟨_, rfl⟩
            rw [← ha0] at ha1 ⊢
            have HA0 := Box.mk ha0
            clear ha0
            by_cases c3 : y = 2
            · subst c3
              have hz : ¬ 9223372036854775807 < 60 + 63 * (j - 1) + 63 := by omega
              go_wp2_with fail
              refine ⟨⟨j + 1, by omega, hlt, by go_num, int_congr (by rw [HA1.out]; omega), ?_, fun k hk => ?_, trivial⟩, by simp [intOf]; omega⟩
              · congr 1
                apply ba_ext
                rw [ByteArray.data_append, Array.toList_append, ba_cut, HA1.out]
                obtain ⟨i, rfl⟩ : ∃ i, j = i + 1 := ⟨j - 1, by omega⟩
                show bodyL s.data.toList p (i + 1) ++ _ = bodyL s.data.toList p (i + 1) ++ _
                rw [show 64 * (p + (i + 1)) + 64 - (64 * (p + (i + 1)) + 1) = 63 by omega]
              · rcases Nat.lt_or_ge k (j - 1) with h | h
                · exact HG.out k h
                · rw [show k = j - 1 by omega, hgo]; rfl
            · have hne : ((y : Int) != 2) = true := by rw [bne_iff_ne]; omega
              have HRR : Box (R = ([], 0)) := ⟨by
                rw [HR.out, runB_spec _ _ (j - 1) (by omega) HG.out (.inr (by rw [hgo, decide_eq_false_iff_not]; exact c3)), if_pos (by omega)]⟩
              clear c3 hgo
              go_wp2_with fail
              go_ret2
              rw [HRR.out]; exact ⟨rfl, rfl⟩
          · have hltI : ¬ (j : Int) < (M : Int) := by omega
            obtain rfl : j = M := by omega
            have HRR : Box (R = ((bodyL s.data.toList p j).take N, j)) := ⟨by
              rw [HR.out, runB_spec _ _ (j - 1) (Nat.le_refl _) HG.out (.inl rfl), if_neg (by omega)]⟩
            obtain ⟨X, hX⟩ : ∃ X : ByteArray, X = ⟨(bodyL s.data.toList p j).toArray⟩ := ⟨_, rfl⟩
            have hXs : N ≤ X.size := by
              rw [hX]; show N ≤ (bodyL s.data.toList p j).toArray.size
              rw [List.size_toArray, hbl]; exact HNM.out h1
            have hXt : Box (X.extract 0 N = ⟨((bodyL s.data.toList p j).take N).toArray⟩) := ⟨by
              apply ba_ext; rw [ba_cut, hX]; simp⟩
            rw [← hX]
            clear hX hbl
            go_wp2_with fail
            go_ret2
            rw [HRR.out, ← hXt.out]; exact ⟨rfl, rfl⟩
  · have HR : Box (R = ([], 0)) := ⟨by rw [hR, h0, if_pos (by rw [decide_eq_false_iff_not]; exact c0)]⟩
    clear hR h0
    by_cases c1 : x0 = 1
    · have c3 : ¬ x3 = 0 := fun h => c0 ⟨c1, h⟩
      have c3I : ((x3 : Int) != 0) = true := by rw [bne_iff_ne]; omega
      have c1I : ((x0 : Int) != 1) = false := by rw [bne_eq_false_iff_eq]; omega
      clear c0 c1 c3
      go_enter Tryz.func71, Tryz.ntmps71
      go_wp2_with fail
      go_ret2
      rw [HR.out]; exact ⟨rfl, rfl⟩
    · have c1I : ((x0 : Int) != 1) = true := by rw [bne_iff_ne]; omega
      clear c0 c1
      go_enter Tryz.func71, Tryz.ntmps71
      go_wp2_with fail
      go_ret2
      rw [HR.out]; exact ⟨rfl, rfl⟩
end Go.Proofs.YtjednaendedpdaaGreat
namespace Go.Proofs.YtjednaendedpdaaGreat
set_option maxRecDepth 100000
set_option linter.unusedVariables false
open Go Go.RowKit

theorem lget_step (N Q M b : Nat) (hQ : Q = 256 * N) (hM : M = b + 256 * N) (hN : N < 281474976710656) (hb : b < 256) :
    IntKind.i64.wrap (256 * (N : Int)) = (Q : Int) ∧ IntKind.i64.wrap ((Q : Int) + (b : Int)) = (M : Int) ∧ wrap64 (b : Int) = (b : Int) ∧ IntKind.i64.wrap (b : Int) = (b : Int) := by
  refine ⟨?_, ?_, ?_, ?_⟩
  · rw [IntKind.wrap_i64]; omega
  · rw [IntKind.wrap_i64]; omega
  · rw [IntWalk.wrap64_in] <;> omega
  · rw [IntKind.wrap_i64]; omega
theorem lget_back (k : Nat) (hk : k ≤ 7) : IntKind.i64.wrap ((k : Int) - 1) = (k : Int) - 1 := by rw [IntKind.wrap_i64]; omega
theorem rlget_any (s : ByteArray) (hs : 1 ≤ s.size ∧ s.size ≤ 7) (w : World) :
    Calls Tryz.prog 32 #[.string s] w fun e w' => e = .returned (.tuple #[.int .i64 (num s : Nat), .int .i64 0]) ∧ w = w' := by
  obtain ⟨h1, h7⟩ := hs
  have h1I : decide ((s.size : Int) < 1) = false := by rw [decide_eq_false_iff_not]; omega
  have h7I : decide (7 < (s.size : Int)) = false := by rw [decide_eq_false_iff_not]; omega
  have hw0 : IntKind.i64.wrap ((s.size : Int) - 1) = (s.size : Int) - 1 := by rw [IntKind.wrap_i64]; omega
  have hl : s.data.toList.length = s.size := by simp
  go_enter Tryz.func32, Tryz.ntmps32
  go_wp2_with fail
  go_loopw [4, 5] (fun n i wr => ∃ j : Nat, j ≤ s.size ∧ i = .int .i64 ((j : Int) - 1) ∧ n = .int .i64 (leNat (s.data.toList.drop j) : Nat) ∧ w = wr) (fun _ i _ => (intOf i + 1).toNat)
  case atStart => exact ⟨s.size, Nat.le_refl _, rfl, by rw [List.drop_of_length_le (by omega)]; rfl, rfl⟩
  case round =>
    obtain ⟨j, hj, rfl, rfl, rfl⟩ := hrel
    cases j with
    | zero =>
      have e : s.data.toList.drop 0 = s.data.toList := rfl
      rw [e]
      go_wp2_with fail
      go_ret2
      exact ⟨rfl, rfl⟩
    | succ k =>
      rw [show (((k + 1 : Nat) : Int) - 1) = (k : Int) by omega]
      have hkI : (k : Int) < (s.size : Int) := by omega
      have hks : k < s.size := by omega
      obtain ⟨N, hN⟩ : ∃ N, N = leNat (s.data.toList.drop (k + 1)) := ⟨_, rfl⟩
      have hN48 : N < 281474976710656 := by
        have h1 := leNat_lt (s.data.toList.drop (k + 1))
        rw [← hN] at h1
        exact Nat.lt_of_lt_of_le h1 (Nat.le_trans (Nat.pow_le_pow_right (by omega) (by rw [List.length_drop]; omega : (s.data.toList.drop (k + 1)).length ≤ 6)) (by decide))
      obtain ⟨M, hM⟩ : ∃ M, M = leNat (s.data.toList.drop k) := ⟨_, rfl⟩
      have hMN : M = (s[k]'hks).toNat + 256 * N := by
        rw [hM, hN, List.drop_eq_getElem_cons (by omega)]; rfl
      obtain ⟨Q, hQ⟩ : ∃ Q, Q = 256 * N := ⟨_, rfl⟩
      have hb := (s[k]'hks).toNat_lt
      obtain ⟨hw1, hw2, hw3, hw4⟩ := lget_step N Q M (s[k]'hks).toNat hQ hMN hN48 hb
      have hw5 := lget_back k (by omega)
      have HJ := Box.mk (And.intro hj hM)
      rw [← hN]
      clear hN hN48 hMN hQ hb hj hM h1 h7
      go_wp2_with fail
      exact ⟨⟨k, by have := HJ.out.1; omega, rfl, by rw [← HJ.out.2], trivial⟩, by simp [intOf]⟩
theorem rpages_any (n : Nat) (hn : n ≤ 9223372036854775807) (w : World) : Calls Tryz.prog 95 #[.int .i64 n] w fun e w' => e = .returned (.int .i64 (pgs n : Nat)) ∧ w = w' := by
  obtain ⟨V, hV⟩ : ∃ V, V = pgs n := ⟨_, rfl⟩
  rw [← hV]
  have HV := Box.mk hV
  clear hV
  have g0 : decide ((n : Int) < 0) = false := by rw [decide_eq_false_iff_not]; omega
  go_enter Tryz.func95, Tryz.ntmps95
  go_wp2
  all_goals
    go_ret
    refine ⟨congrArg Ending.returned (int_congr ?_), rfl⟩
    rw [HV.out]
    unfold pgs
    (repeat' split) <;> omega
/-- The first 64 bytes, and what is behind them. -/
theorem cut64 (x : ByteArray) (K : Nat) (hK : K = min x.size 64) : (x.extract 0 K).data.toList = x.data.toList.take 64 ∧ (x.extract K x.size).data.toList = x.data.toList.drop 64 := by
  have hs : x.data.toList.length = x.size := by simp
  refine ⟨?_, ?_⟩
  · rw [ba_cut, List.drop_zero, Nat.sub_zero, hK, ← hs, List.take_eq_take_iff]; omega
  · rw [ba_cut, List.take_of_length_le (by rw [List.length_drop]; omega), hK]
    rcases Nat.le_total x.size 64 with h | h
    · rw [Nat.min_eq_left h, List.drop_of_length_le (by omega), List.drop_of_length_le (by omega)]
    · rw [Nat.min_eq_right h]
def pgDS (r : ByteArray) (i : Nat) : ByteArray := ⟨(pgD r.data.toList i).toArray⟩
/-- What is left when so many pages are told. -/
def restD (r : ByteArray) (j : Nat) : ByteArray := if j = 0 then ⟨(1 :: (leList 2 r.size ++ 0 :: r.data.toList)).toArray⟩ else ⟨(2 :: r.data.toList.drop (60 + 63 * (j - 1))).toArray⟩
theorem restD_size (r : ByteArray) (j : Nat) (hj : j = 0 ∨ 60 + 63 * (j - 1) < r.size) : (restD r j).size ≤ r.size + 4 ∧ 1 ≤ (restD r j).size := by
  have hs : r.data.toList.length = r.size := by simp
  have hb : ∀ l : List UInt8, (⟨l.toArray⟩ : ByteArray).size = l.length := fun l => by show l.toArray.size = _; rw [List.size_toArray]
  unfold restD
  split
  · rw [hb, List.length_cons, List.length_append, List.length_cons, leList_length, hs]; omega
  · rw [hb, List.length_cons, List.length_drop, hs]; omega
theorem restD_cut (r : ByteArray) (j K : Nat) (hK : K = min (restD r j).size 64) : (restD r j).extract 0 K = pgDS r j ∧ (restD r j).extract K (restD r j).size = r.extract (60 + 63 * j) r.size := by
  obtain ⟨h1, h2⟩ := cut64 (restD r j) K hK
  have hs : r.data.toList.length = r.size := by simp
  refine ⟨?_, ?_⟩
  · apply ba_ext
    rw [h1]
    show _ = pgD r.data.toList j
    unfold restD pgD
    split
    · rw [hs]; rfl
    · rfl
  · apply ba_ext
    rw [h2, ba_cut, List.take_of_length_le (by rw [List.length_drop, hs]; omega)]
    unfold restD
    split
    · rename_i h; subst h; rfl
    · rename_i h
      show (r.data.toList.drop (60 + 63 * (j - 1))).drop 63 = _
      rw [List.drop_drop]; congr 1; omega
theorem restD_next (r : ByteArray) (j : Nat) : (⟨#[2]⟩ : ByteArray) ++ r.extract (60 + 63 * j) r.size = restD r (j + 1) := by
  have hs : r.data.toList.length = r.size := by simp
  apply ba_ext
  rw [ByteArray.data_append, Array.toList_append, ba_cut, List.take_of_length_le (by rw [List.length_drop, hs]; omega)]
  unfold restD
  rw [if_neg (by omega), Nat.add_sub_cancel]; rfl
theorem restD_first (r N2 : ByteArray) (h : N2 = ⟨(leList 2 r.size).toArray⟩) : (⟨#[1]⟩ : ByteArray) ++ N2 ++ ⟨#[0]⟩ ++ r = restD r 0 := by
  subst h
  apply ba_ext
  unfold restD
  rw [if_pos rfl]
  simp
theorem own_allocL {w : World} {base size n : Nat} {e : TypeId} {v : Value} {xs : List Value} (h : w.ownsRow base e size v n xs) (o : Obj) : (w.alloc o).ownsRow base e size v n xs :=
  own_keep h fun k _ hl => heap_alloc_old _ _ hl
theorem one_cellL (w : World) (u : Value) (e : TypeId) : ∀ (j : Nat) (x : Value), ([u] : List Value)[j]? = some x → (w.alloc (.cells #[u] e)).cell? ((⟨w.heap.size, 0, none⟩ : Addr).add j) = some x := by
  intro j x h
  rw [show ((⟨w.heap.size, 0, none⟩ : Addr).add j) = ⟨w.heap.size, j, none⟩ from by unfold Addr.add; split <;> simp_all, cell_of_row _ _ _ _ _ _ (heap_alloc_new _ _)]
  simpa using h
set_option maxHeartbeats 4000000 in
theorem rlaid_any (r : ByteArray) (hr : r.size ≤ 400) (w : World) :
    Calls Tryz.prog 96 #[.string r] w fun e w' => ∃ v, e = .returned v ∧ w'.ownsRow w.heap.size 9 1 v (pgs r.size) ((List.range (pgs r.size)).map fun i => .string (pgDS r i)) ∧ Below w.heap.size w w' := by
  have PU := Box.mk (fun w => rcput_any r.size 2 (by omega) (by rw [show (256 : Nat) ^ 2 = 65536 from rfl]; omega) w)
  obtain ⟨N2, hN2⟩ : ∃ N : ByteArray, N = ⟨(leList 2 r.size).toArray⟩ := ⟨_, rfl⟩
  rw [← hN2] at PU
  have HN2 := Box.mk (restD_first r N2 hN2)
  have hn2 : N2.size = 2 := by rw [hN2]; show (leList 2 r.size).toArray.size = 2; simp [leList_length]
  have HP := Box.mk (pgs_pos hr)
  obtain ⟨i0, hi0, hz0, hsz0, hby0⟩ := info_parts info_str
  clear hN2
  go_enter Tryz.func96, Tryz.ntmps96
  go_wp2_with fail
  refine (PU.out _).mono ?_
  rintro e w1 ⟨rfl, hb⟩
  have O0 := Box.mk (show (w1.alloc (.cells #[] 9)).ownsRow w.heap.size 9 1 (.slice (some ⟨w1.heap.size, 0, none⟩) 0 0) 0 [] from World.ownsRow_lit (base := w.heap.size) (size := 1) (e := 9) w1 #[] 0 hb.size (by unfold maxLen; omega) rfl)
  have B0 := Box.mk (hb.alloc hb.size (.cells #[] 9))
  clear hb PU
  go_wp2_with fail
  rw [HN2.out]
  clear HN2 hn2
  go_loopw [5, 6] (fun v x wr => ∃ j : Nat, j < pgs r.size ∧ x = .string (restD r j) ∧ wr.ownsRow w.heap.size 9 1 v j ((List.range j).map fun i => .string (pgDS r i)) ∧ Below w.heap.size w wr) (fun _ x _ => (match x with | .string s => s.size | _ => 0))
  case atStart => exact ⟨0, by have := HP.out.1; omega, rfl, O0.out, B0.out⟩
  case round =>
    clear O0 B0
    obtain ⟨j, hj, rfl, hown, hb⟩ := hrel
    have HOF : Box (j = 0 ∨ 60 + 63 * (j - 1) < r.size) := ⟨by
      unfold pgs at hj; rw [if_neg (by omega)] at hj; split at hj <;> omega⟩
    obtain ⟨hz1, hz2⟩ := restD_size r j HOF.out
    obtain ⟨K, hKe⟩ : ∃ K, K = min (restD r j).size 64 := ⟨_, rfl⟩
    obtain ⟨hc1, hc2⟩ := restD_cut r j K hKe
    obtain ⟨x, hx⟩ : ∃ x, x = restD r j := ⟨_, rfl⟩
    rw [← hx] at hz1 hz2 hKe hc1 hc2 ⊢
    have hK : min (x.size : Int) 64 = (K : Int) := by omega
    have hKx : (K : Int) ≤ (x.size : Int) := by omega
    have HX := Box.mk hx; have HOWN := Box.mk hown; have HB := Box.mk hb; have HJ := Box.mk hj; have HXS := Box.mk hKe
    obtain ⟨y, hy⟩ : ∃ y, y = r.extract (60 + 63 * j) r.size := ⟨_, rfl⟩
    obtain ⟨P, hP⟩ : ∃ P, P = pgDS r j := ⟨_, rfl⟩
    rw [← hy] at hc2
    rw [← hP] at hc1
    have HY := Box.mk hy; have HPP := Box.mk hP
    have hys : y.size = r.size - (60 + 63 * j) := by rw [hy, ByteArray.size_extract]; omega
    have hj7 : j ≤ 7 := by have := HP.out.2; omega
    clear hx hown hb hj hKe hy hP
    go_upto_region 4 with (fail)
    go_cut [7] (fun k wx => k = .int .i64 (K : Nat) ∧ wx = wr)
    case first =>
      go_wp2_with fail
      all_goals
        go_meet
        exact ⟨int_congr (by omega), rfl⟩
    case rest =>
      obtain ⟨rfl, rfl⟩ := hcut
      clear hK
      go_upto_region 6 with (at_builtin; refine wpList_append_own _ rfl (.tmp 23) (.tmp 27) 51 rfl w.heap.size 9 i0 (.string ⟨#[]⟩) 1 16 Tryz.underlying51 hi0 hz0 hsz0 hby0 rfl (by decide) u5 j _ rfl (own_allocL HOWN.out _) ⟨wc.heap.size, 0, none⟩ 1 1 [.string P] rfl rfl (one_cellL wc _ _) (fun u hu => by simp at hu; subst hu; rfl) (by unfold maxLen; omega) (by omega) (by have := HB.out.size; simp; omega) ?_; intro v' w' hown' hgrow hnil)
      have HN := Box.mk hown'
      have HBN := Box.mk ((HB.out.alloc HB.out.size (.cells #[.string P] 9)).grown hgrow (by have := HB.out.size; simp; omega) (fun k hk => (World.ownsRow.lt (own_allocL HOWN.out (.cells #[.string P] 9)) k hk).1))
      have NX : Box ((List.range (j + 1)).map (fun i => Value.string (pgDS r i)) = (List.range j).map (fun i => .string (pgDS r i)) ++ [.string P]) := ⟨by rw [List.range_succ, List.map_append, HPP.out]; rfl⟩
      clear hown' hgrow hnil HOWN HB hc1
      by_cases hne : y.size = 0
      · have he : y.toList.isEmpty = true := str_no y hne
        have HE : Box (j + 1 = pgs r.size) := ⟨by
          have h1 := HJ.out; have h2 := HOF.out
          unfold pgs at h1 ⊢
          rw [if_neg (by omega)] at h1 ⊢
          split at h1 <;> (rename_i h6; first | rw [if_pos h6] | rw [if_neg h6]) <;> omega⟩
        clear hne
        go_wp2_with fail
        go_ret
        exact ⟨_, rfl, by rw [← HE.out, NX.out]; exact HN.out, HBN.out⟩
      · have he : y.toList.isEmpty = false := str_ne y hne
        have hy4 : y.size ≤ 400 := by omega
        have HE : Box (j + 1 < pgs r.size) := ⟨by
          have h1 := HJ.out; have h2 := HOF.out
          unfold pgs at h1 ⊢
          rw [if_neg (by omega)] at h1 ⊢
          split at h1 <;> (rename_i h6; first | rw [if_pos h6] | rw [if_neg h6]) <;> omega⟩
        have HNX : Box ((⟨#[2]⟩ : ByteArray) ++ y = restD r (j + 1)) := ⟨by rw [HY.out]; exact restD_next r j⟩
        have HSZ : Box (((⟨#[2]⟩ : ByteArray) ++ y).size < x.size) := ⟨by
          rw [ByteArray.size_append, show (⟨#[2]⟩ : ByteArray).size = 1 from rfl, ← hc2, ByteArray.size_extract]
          have h3 := HXS.out
          have h4 : (x.extract K x.size).size ≠ 0 := by rw [hc2]; exact hne
          rw [ByteArray.size_extract] at h4
          omega⟩
        clear hne
        go_wp2_with fail
        refine ⟨⟨j + 1, HE.out, congrArg Value.string HNX.out, by rw [NX.out]; exact HN.out, HBN.out⟩, ?_⟩
        exact HSZ.out
end Go.Proofs.YtjednaendedpdaaGreat
namespace Go.Proofs.YtjednaendedpdaaGreat
set_option maxRecDepth 100000
set_option linter.unusedVariables false
open Go Go.RowKit

theorem own_cellL {w : World} {base n g : Nat} {cap : Nat} {xs : List Value} (h : w.ownsRow base 9 1 (.slice (some ⟨g, 0, none⟩) n cap) n xs) (i : Nat) (u : Value) (hu : xs[i]? = some u) : w.cell? ⟨g, i, none⟩ = some u := by
  rcases h.2 with ⟨hv, _⟩ | ⟨g', cap', cur, hv, _, hg, _, _, _, htk⟩
  · cases hv
  · cases hv
    rw [cell_of_row _ _ _ _ _ _ hg, ← Array.getElem?_toList]
    rw [← htk, List.getElem?_take] at hu
    split at hu
    · exact hu
    · cases hu
theorem own_ptrL {w : World} {base n : Nat} {v : Value} {e : TypeId} {size : Nat} {xs : List Value} (h : w.ownsRow base e size v n xs) (hn : 0 < n) : ∃ g cap, v = .slice (some ⟨g, 0, none⟩) n cap ∧ base ≤ g ∧ g < w.heap.size := by
  rcases h.2 with ⟨_, h0⟩ | ⟨g', cap', cur, hv, hb, hg, _⟩
  · omega
  · exact ⟨g', cap', hv, hb, (Array.getElem?_eq_some_iff.1 hg).1⟩
theorem body_next (S : List UInt8) (p j : Nat) : bodyL S p (j + 1) = bodyL S p j ++ (S.drop (64 * (p + j) + (if j = 0 then 4 else 1))).take (if j = 0 then 60 else 63) := by
  cases j with
  | zero => rw [if_pos rfl, if_pos rfl]; show (S.drop (64 * p + 4)).take 60 = _; rfl
  | succ j => rw [if_neg (by omega), if_neg (by omega)]; rfl
theorem pgD_len (r : List UInt8) (i : Nat) : (pgD r i).length ≤ 64 := by
  unfold pgD
  split <;> simp [leList_length] <;> omega
set_option maxHeartbeats 4000000 in
theorem rstands_any (s : ByteArray) (hs : s.size = 512) (p : Nat) (hp : p < 8) (w : World) :
    Calls Tryz.prog 74 #[.string s, .int .i64 (p : Nat)] w fun e w' => e = .returned (.tuple #[.string ⟨(recL s.data.toList p).1.toArray⟩, .int .i64 ((recL s.data.toList p).2 : Nat)]) ∧ Below w.heap.size w w' := by
  have hSl : s.data.toList.length = 512 := by rw [← hs]; simp
  obtain ⟨A, hA, HA⟩ : ∃ x : Nat, IntKind.i64.wrap (64 * (p : Int)) = (x : Int) ∧ Box (x = 64 * p) := ⟨64 * p, by rw [IntKind.wrap_i64]; omega, ⟨rfl⟩⟩
  have hA4 : A + 64 ≤ s.size := by have := HA.out; omega
  obtain ⟨R, hR⟩ : ∃ R, R = recL s.data.toList p := ⟨_, rfl⟩
  rw [← hR]
  obtain ⟨N, hN⟩ : ∃ N, N = lenL s.data.toList p := ⟨_, rfl⟩
  have hLe : s.extract (A + 1) (A + 3) = ⟨((s.data.toList.drop (64 * p + 1)).take 2).toArray⟩ := by
    apply ba_ext; rw [ba_cut, HA.out, show 64 * p + 3 - (64 * p + 1) = 2 by omega]
  have hEs : (s.extract (A + 1) (A + 3)).size = 2 := by rw [ByteArray.size_extract]; omega
  have GE := Box.mk (rlget_any (s.extract (A + 1) (A + 3)) (by omega) w)
  rw [show num (s.extract (A + 1) (A + 3)) = N by rw [hN]; unfold num lenL; rw [hLe]] at GE
  have hN16 : N < 65536 := by
    rw [hN]; unfold lenL
    have := leNat_lt ((s.data.toList.drop (64 * p + 1)).take 2)
    have h2 : ((s.data.toList.drop (64 * p + 1)).take 2).length = 2 := by rw [List.length_take, List.length_drop]; omega
    rw [h2] at this; exact this
  have PG := Box.mk (rpages_any N (by omega) w)
  obtain ⟨M, hM⟩ : ∃ M, M = pgs N := ⟨_, rfl⟩
  rw [← hM] at PG
  have hpp : N ≤ 400 → 1 ≤ M ∧ M ≤ 7 := fun h => by rw [hM]; exact pgs_pos h
  have hp4 : 400 < N → M = 0 := fun h => by rw [hM]; unfold pgs; rw [if_pos h]
  have hNM : 1 ≤ M → N ≤ 60 + 63 * (M - 1) := fun h => by
    rw [hM] at h ⊢; unfold pgs at h ⊢; split at h
    · omega
    · rename_i h4; rw [if_neg h4]; split at h <;> (rename_i h6; first | rw [if_pos h6] | rw [if_neg h6]) <;> omega
  have hM7 : M ≤ 7 := by
    rcases Nat.lt_or_ge 400 N with h | h
    · rw [hp4 h]; omega
    · exact (hpp h).2
  have HNE := Box.mk hN; have HME := Box.mk hM; have HRE := Box.mk hR
  have HN4 : Box (M ≠ 0 → N ≤ 400) := ⟨fun h => by
    rcases Nat.lt_or_ge 400 N with h' | h'
    · exact absurd (hp4 h') h
    · exact h'⟩
  have HNM := Box.mk hNM; have HSL := Box.mk hSl
  clear hR hpp hp4 hNM hM hN hLe hN16 hEs hSl
  by_cases c1 : M = 0
  · as_aux_lemma =>
    have c1I : ((M : Int) == 0) = true := by rw [beq_iff_eq]; omega
    have HR : Box (R = ([], 0)) := ⟨by rw [HRE.out]; exact stand_none HNE.out HME.out (.inl c1)⟩
    clear c1
    go_enter Tryz.func74, Tryz.ntmps74
    go_wp2_with fail
    refine GE.out.mono ?_
    rintro e w1 ⟨rfl, rfl⟩
    go_wp2_with fail
    refine PG.out.mono ?_
    rintro e w1 ⟨rfl, rfl⟩
    go_wp2_with fail
    go_ret2
    rw [HR.out]; exact ⟨rfl, Below.refl _ _⟩
  · have c1I : ((M : Int) == 0) = false := by rw [beq_eq_false_iff_ne]; omega
    by_cases c2 : 8 < p + M
    · as_aux_lemma =>
      have c2I : decide (8 < (p : Int) + (M : Int)) = true := by rw [decide_eq_true_eq]; omega
      have HR : Box (R = ([], 0)) := ⟨by rw [HRE.out]; exact stand_none HNE.out HME.out (.inr c2)⟩
      clear c2 c1
      go_enter Tryz.func74, Tryz.ntmps74
      go_wp2_with fail
      refine GE.out.mono ?_
      rintro e w1 ⟨rfl, rfl⟩
      go_wp2_with fail
      refine PG.out.mono ?_
      rintro e w1 ⟨rfl, rfl⟩
      go_wp2_with fail
      go_ret2
      rw [HR.out]; exact ⟨rfl, Below.refl _ _⟩
    · have c2I : decide (8 < (p : Int) + (M : Int)) = false := by rw [decide_eq_false_iff_not]; omega
      have HPM := Box.mk (show 1 ≤ M ∧ p + M ≤ 8 from ⟨by omega, by omega⟩)
      have HN400 := Box.mk (HN4.out c1)
      have HBL : Box ((bodyL s.data.toList p M).length = 60 + 63 * (M - 1)) := ⟨bodyD_len _ _ _ HPM.out.1 (by rw [HSL.out]; have := HPM.out; omega)⟩
      have HNB : Box (N ≤ (bodyL s.data.toList p M).length) := ⟨by rw [HBL.out]; exact HNM.out HPM.out.1⟩
      obtain ⟨RR, hRR⟩ : ∃ x : ByteArray, x = ⟨((bodyL s.data.toList p M).take N).toArray⟩ := ⟨_, rfl⟩
      have HRR := Box.mk hRR
      have hRl : RR.data.toList = (bodyL s.data.toList p M).take N := by rw [hRR]
      have hRs : RR.size = N := by
        rw [hRR]; show ((bodyL s.data.toList p M).take N).toArray.size = N
        rw [List.size_toArray, List.length_take]; have := HNB.out; omega
      have LD := Box.mk (fun w => rlaid_any RR (by rw [hRs]; exact HN400.out) w)
      rw [hRs, ← HME.out] at LD
      have HRL := Box.mk hRl
      clear c2 c1 hRR hRl hRs HN4
      go_enter Tryz.func74, Tryz.ntmps74
      go_wp2_with fail
      refine GE.out.mono ?_
      rintro e w1 ⟨rfl, rfl⟩
      go_wp2_with fail
      refine PG.out.mono ?_
      rintro e w1 ⟨rfl, rfl⟩
      go_wp2_with fail
      clear hA4 hA c1I c2I PG GE
      go_loopw [9, 10] (fun o i wr => ∃ j : Nat, j ≤ M ∧ i = .int .i64 (j : Nat) ∧ o = .string ⟨(bodyL s.data.toList p j).toArray⟩ ∧ w = wr) (fun _ i _ => M - (intOf i).toNat)
      case atStart => exact ⟨0, Nat.zero_le _, rfl, rfl, rfl⟩
      case round =>
        obtain ⟨j, hj, rfl, rfl, rfl⟩ := hrel
        obtain ⟨X, hX⟩ : ∃ X : ByteArray, X = ⟨(bodyL s.data.toList p j).toArray⟩ := ⟨_, rfl⟩
        have hXs : X.size ≤ 500 := by
          rw [hX]; show (bodyL s.data.toList p j).toArray.size ≤ 500
          rw [List.size_toArray]
          rcases Nat.eq_zero_or_pos j with rfl | h
          · show 0 ≤ 500; omega
          · rw [bodyD_len _ _ _ h (by rw [HSL.out]; have := HPM.out; omega)]; have := HPM.out; omega
        rw [← hX]
        have HX := Box.mk hX
        clear hX
        by_cases hlt : j < M
        · have hltI : (j : Int) < (M : Int) := by omega
          have hpm := HPM.out
          obtain ⟨t, ht, HT⟩ : ∃ t : Nat, IntKind.i64.wrap ((p : Int) + (j : Int)) = (t : Int) ∧ Box (t = p + j) := ⟨p + j, by rw [IntKind.wrap_i64]; omega, ⟨rfl⟩⟩
          obtain ⟨a, ha, HA1⟩ : ∃ a : Nat, IntKind.i64.wrap (64 * (t : Int)) = (a : Int) ∧ Box (a = 64 * (p + j)) := ⟨64 * (p + j), by rw [IntKind.wrap_i64, HT.out]; omega, ⟨rfl⟩⟩
          have ha64 : a + 64 ≤ s.size := by have := HA1.out; omega
          have NX := Box.mk (body_next s.data.toList p j)
          by_cases h0 : j = 0
          · have h0I : ((j : Int) == 0) = true := by rw [beq_iff_eq]; omega
            have hz : ¬ 9223372036854775807 < X.size + (a + 64 - (a + 4)) := by omega
            rw [if_pos h0, if_pos h0] at NX
            clear h0
            go_wp2_with fail
            refine ⟨⟨j + 1, hlt, by go_num, ?_, trivial⟩, by simp [intOf]; omega⟩
            congr 1
            apply ba_ext
            rw [ByteArray.data_append, Array.toList_append, ba_cut, HX.out, HA1.out, show 64 * (p + j) + 64 - (64 * (p + j) + 4) = 60 by omega]
            exact NX.out.symm
          · have h0I : ((j : Int) == 0) = false := by rw [beq_eq_false_iff_ne]; omega
            have hz : ¬ 9223372036854775807 < X.size + (a + 64 - (a + 1)) := by omega
            rw [if_neg h0, if_neg h0] at NX
            clear h0
            go_wp2_with fail
            refine ⟨⟨j + 1, hlt, by go_num, ?_, trivial⟩, by simp [intOf]; omega⟩
            congr 1
            apply ba_ext
            rw [ByteArray.data_append, Array.toList_append, ba_cut, HX.out, HA1.out, show 64 * (p + j) + 64 - (64 * (p + j) + 1) = 63 by omega]
            exact NX.out.symm
        · have hltI : ¬ (j : Int) < (M : Int) := by omega
          obtain rfl : j = M := by omega
          have hXn : N ≤ X.size := by
            rw [HX.out]; show N ≤ (bodyL s.data.toList p j).toArray.size
            rw [List.size_toArray]; exact HNB.out
          have hXr : X.extract 0 N = RR := by
            apply ba_ext; rw [ba_cut, HX.out, HRL.out]; simp
          have hXI : (N : Int) ≤ (X.size : Int) := by omega
          clear hlt
          go_wp2_with fail
          clear hXr hXn hXs hXI HX
          refine (LD.out _).mono ?_
          rintro e w1 ⟨v, rfl, hown, hb⟩
          obtain ⟨g, cap, rfl, hg, hgl⟩ := own_ptrL hown HPM.out.1
          have CE := Box.mk (fun (i : Nat) (hi : i < j) => own_cellL hown i (.string (pgDS RR i)) (by rw [List.getElem?_map, List.getElem?_range hi]; rfl))
          have B1 := Box.mk hb
          clear hown hb LD hg hgl
          go_wp2_with fail
          go_loopw [13] (fun i wr => ∃ k : Nat, k ≤ j ∧ i = .int .i64 (k : Nat) ∧ (∀ i, i < k → (s.data.toList.drop (64 * (p + i))).take (pgD RR.data.toList i).length = pgD RR.data.toList i) ∧ ∃ n, wr = w1.drewN n) (fun i _ => j - (intOf i).toNat)
          case atStart => exact ⟨0, Nat.zero_le _, rfl, (fun i h => by omega), 0, rfl⟩
          case round =>
            obtain ⟨k, hk, rfl, hall, nd, rfl⟩ := hrel
            have HALL := Box.mk hall
            have hpm := HPM.out
            clear hall
            by_cases hlt : k < j
            · have hkI : (k : Int) < (j : Int) := by omega
              obtain ⟨t, ht, HT⟩ : ∃ t : Nat, IntKind.i64.wrap ((p : Int) + (k : Int)) = (t : Int) ∧ Box (t = p + k) := ⟨p + k, by rw [IntKind.wrap_i64]; omega, ⟨rfl⟩⟩
              obtain ⟨a, ha, HA1⟩ : ∃ a : Nat, IntKind.i64.wrap (64 * (t : Int)) = (a : Int) ∧ Box (a = 64 * (p + k)) := ⟨64 * (p + k), by rw [IntKind.wrap_i64, HT.out]; omega, ⟨rfl⟩⟩
              obtain ⟨P, hP⟩ : ∃ P, P = pgDS RR k := ⟨_, rfl⟩
              have c0 : w1.cell? ⟨g, k, none⟩ = some (.string P) := by rw [hP]; exact CE.out k hlt
              have hPs : P.size ≤ 64 := by rw [hP]; show (pgD RR.data.toList k).toArray.size ≤ 64; rw [List.size_toArray]; exact pgD_len _ _
              obtain ⟨b, hb, HB1⟩ : ∃ b : Nat, IntKind.i64.wrap ((a : Int) + (P.size : Int)) = (b : Int) ∧ Box (b = a + P.size) := ⟨a + P.size, by rw [IntKind.wrap_i64]; have := HA1.out; omega, ⟨rfl⟩⟩
              have hab : a ≤ b := by have := HB1.out; omega
              have hbs : b ≤ s.size := by have := HA1.out; have := HB1.out; omega
              have habI : (a : Int) ≤ (b : Int) := by omega
              have hbsI : (b : Int) ≤ (s.size : Int) := by omega
              have EQ : Box ((s.extract a b).data.toList = (s.data.toList.drop (64 * (p + k))).take (pgD RR.data.toList k).length) := ⟨by
                rw [ba_cut, HB1.out, Nat.add_sub_cancel_left, HA1.out, hP]; rfl⟩
              have HP1 := Box.mk (show P.data.toList = pgD RR.data.toList k by rw [hP]; rfl)
              clear hP hPs hab hbs
              by_cases he : (s.data.toList.drop (64 * (p + k))).take (pgD RR.data.toList k).length = pgD RR.data.toList k
              · have q1 : ((s.extract a b).toList != P.toList) = false := by
                  rw [bne_eq_false_iff_eq, ByteArray.toList_eq, ByteArray.toList_eq, EQ.out, HP1.out]; exact he
                have q2 : ((s.extract a b).toList == P.toList) = true := by rw [beq_iff_eq, ByteArray.toList_eq, ByteArray.toList_eq, EQ.out, HP1.out]; exact he
                have NALL : Box (∀ i, i < k + 1 → (s.data.toList.drop (64 * (p + i))).take (pgD RR.data.toList i).length = pgD RR.data.toList i) := ⟨fun i hi => by
                  rcases Nat.lt_succ_iff_lt_or_eq.1 hi with h | rfl
                  · exact HALL.out i h
                  · exact he⟩
                clear he EQ HALL
                go_upto_region 18 with (fail)
                go_region
                all_goals
                  go_wp2_with fail
                  exact ⟨⟨k + 1, hlt, by go_num, NALL.out, _, rfl⟩, by simp [intOf]; omega⟩
              · have q1 : ((s.extract a b).toList != P.toList) = true := by
                  rw [bne_iff_ne, ByteArray.toList_eq, ByteArray.toList_eq, EQ.out, HP1.out]; exact he
                have q2 : ((s.extract a b).toList == P.toList) = false := by rw [beq_eq_false_iff_ne, ByteArray.toList_eq, ByteArray.toList_eq, EQ.out, HP1.out]; exact he
                have HR : Box (R = ([], 0)) := ⟨by
                  rw [HRE.out]
                  rw [HRL.out] at he
                  exact stand_no HNE.out HME.out HPM.out.1 HPM.out.2 HSL.out HNB.out hlt he⟩
                clear he EQ HALL
                go_upto_region 18 with (fail)
                go_region
                all_goals
                  go_wp2_with fail
                  go_ret2
                  rw [HR.out]; exact ⟨rfl, (bdrewN B1.out _).drew⟩
            · have hkI : ¬ (k : Int) < (j : Int) := by omega
              have HR : Box (R = ((bodyL s.data.toList p j).take N, j)) := ⟨by
                rw [HRE.out]
                refine stand_yes HNE.out HME.out HPM.out.1 HPM.out.2 HSL.out HNB.out (fun i hi => ?_)
                have := HALL.out i (by omega)
                rw [HRL.out] at this
                exact this⟩
              clear hlt
              go_wp2_with fail
              go_ret2
              rw [HR.out, ← HRR.out]; exact ⟨rfl, bdrewN B1.out _⟩
end Go.Proofs.YtjednaendedpdaaGreat
namespace Go.Proofs.YtjednaendedpdaaGreat
set_option maxRecDepth 100000
set_option linter.unusedVariables false
open Go Go.RowKit Go.Shelf
attribute [local go_sem] Oper.semAt_some

theorem info_ti : (Tryz.prog.info? 3).map (fun i => (i.zero, i.size, i.bytes)) = some (some (.int .i64 0), 1, 8) := by kernel_rfl
/-- A log lies below n₀, as its iterator reads it. -/
structure LgB (n₀ : Nat) (W : World) (g : Nat) (xs : List (Nat × Nat)) : Prop where
  at_ : ∃ gs cap, g < n₀ ∧ gs < n₀ ∧ W.cell? ⟨g, 1, none⟩ = some (.slice (some ⟨gs, 0, none⟩) xs.length cap) ∧ ∀ j s, xs[j]? = some s → W.cell? ⟨gs, j * 2, none⟩ = some (.int .i64 (s.1 : Int)) ∧ W.cell? ⟨gs, j * 2 + 1, none⟩ = some (.int .i64 (s.2 : Int))
theorem LgB.below {n₀ : Nat} {A B : World} (h : Below n₀ A B) {g : Nat} {xs : List (Nat × Nat)} (hl : LgB n₀ A g xs) : LgB n₀ B g xs := by
  obtain ⟨gs, cap, h1, h2, h3, h4⟩ := hl
  exact ⟨gs, cap, h1, h2, (h.cell (p := ⟨g, 1, none⟩) h1).trans h3, fun j s hj => ⟨(h.cell (p := ⟨gs, _, none⟩) h2).trans (h4 j s hj).1, (h.cell (p := ⟨gs, _, none⟩) h2).trans (h4 j s hj).2⟩⟩
set_option maxHeartbeats 2000000 in
/-- The iterator. -/
theorem lall1_in (F : Fence) (n : Nat) (hf : F.fn 90) (hro : F.round = none) (hn : 1 ≤ n) (l Bn n₀ g : Nat) (xs : List (Nat × Nat)) (hlen : xs.length ≤ 1000) (J Jx : List (Nat × Nat) → World → Prop) (hJa : ∀ s W o, J s W → J s (World.alloc W o))
    (hY : ∀ pre x W, J pre W → pre.length < xs.length → YieldAt F (n - 1) Tryz.prog l #[.int .i64 (x.2 : Int)] W fun e W' =>
      (e = .returned (.bool true) ∧ J (pre ++ [x]) W' ∧ Below n₀ W W') ∨ (e = .returned (.bool false) ∧ Jx (pre ++ [x]) W'))
    (W : World) (hW0 : n₀ ≤ W.heap.size) (hBn : W.cell? ⟨Bn, 0, none⟩ = some (.pointer (some ⟨g, 0, none⟩))) (hL : LgB n₀ W g xs) (h0 : J [] W) :
    CallsIn F n Tryz.prog 90 #[.func (.yield l) #[] #[], .pointer (some ⟨Bn, 0, none⟩)] W fun e W' => (∃ v, e = .returned v) ∧
      ((∃ ys, ys = xs ∧ J ys W') ∨ (∃ pre, pre <+: xs ∧ Jx pre W')) := by
  obtain ⟨gs, cap, hg, hgs, hg1, hcs⟩ := hL
  refine callsIn_of_wp Tryz.func90 rfl hf ?_ hro
  simp only [Tryz.ntmps90, List.size_toArray, List.length_cons, List.length_nil, Nat.reduceAdd, Nat.reduceSub, Array.replicate_succ, Array.replicate_zero, List.push_toArray, List.append_toArray, List.nil_append, List.cons_append]
  gi_wp2
  gi_loopw [10] (fun i wr => ∃ k : Nat, k ≤ xs.length ∧ i = .int .i64 k ∧ J (xs.take k) wr ∧ Below n₀ W wr) (fun i _ => xs.length - (intOf i).toNat)
  case atStart => exact ⟨0, Nat.zero_le _, rfl, h0, Below.refl _ _⟩
  case round =>
    obtain ⟨k, hk, rfl, hJs, hnx⟩ := hrel
    by_cases hlt : k < xs.length
    · obtain ⟨x, hx⟩ : ∃ x, xs[k]? = some x := ⟨_, List.getElem?_eq_getElem hlt⟩
      obtain ⟨s0, s1⟩ := hcs k x hx
      have c0 := (hnx.cell (p := ⟨gs, k * 2, none⟩) hgs).trans s0
      have c1 := (hnx.cell (p := ⟨gs, k * 2 + 1, none⟩) hgs).trans s1
      have hkI : (k : Int) < (xs.length : Int) := by omega
      have hJ2 : J (xs.take k) (wr.alloc (.cells #[.int .i64 (x.1 : Int), .int .i64 (x.2 : Int)] 78)) := hJa _ _ _ hJs
      obtain ⟨fn, tmps, assign, body, hy, hR⟩ := hY _ x _ hJ2 (by rw [List.length_take]; omega)
      have htk : xs.take k ++ [x] = xs.take (k + 1) := by rw [List.take_add_one, hx]; rfl
      have hal : Below n₀ wr (wr.alloc (.cells #[.int .i64 (x.1 : Int), .int .i64 (x.2 : Int)] 78)) := (Below.refl _ _).alloc (Nat.le_trans hW0 hnx.size) _
      clear hcs s0 s1 hx
      gi_wp2
      refine hR.mono ?_
      rintro e W3 (⟨rfl, hJ3, hk3⟩ | ⟨rfl, hJx3⟩)
      · gi_wp2
        go_roundw
        case rel => exact ⟨k + 1, by omega, by go_num, by rw [← htk]; exact hJ3, hnx.trans (hal.trans hk3)⟩
        case measure => simp [intOf]; omega
      · gi_wp2
        refine bodyPost_ret (results_none rfl _ _ _) rfl ?_
        exact ⟨⟨_, rfl⟩, .inr ⟨_, by rw [htk]; exact List.take_prefix _ _, hJx3⟩⟩
    · obtain rfl : k = xs.length := by omega
      gi_wp2
      go_end0
      exact ⟨⟨_, rfl⟩, .inl ⟨_, List.take_length, hJs⟩⟩
set_option maxHeartbeats 1000000 in
theorem lall_in (F : Fence) (n : Nat) (hf : F.fn 67) (hro : F.round = none) (g : Nat) (w : World) :
    CallsIn F n Tryz.prog 67 #[.pointer (some ⟨g, 0, none⟩)] w fun e w' => e = .returned (.func (.func 90) #[] #[.pointer (some ⟨w.heap.size, 0, none⟩)]) ∧ w' = w.alloc (.cells #[.pointer (some ⟨g, 0, none⟩)] 38) := by
  refine callsIn_of_wp Tryz.func67 rfl hf ?_ hro
  simp only [Tryz.ntmps67, List.size_toArray, List.length_cons, List.length_nil, Nat.reduceAdd, Nat.reduceSub, Array.replicate_succ, Array.replicate_zero, List.push_toArray, List.append_toArray, List.nil_append, List.cons_append]
  gi_wp2
  go_ret
  exact ⟨rfl, rfl⟩
theorem lall_stops (F : Fence) (n : Nat) (hf : F.fn 90) (hro : F.round = none) (hn : 1 ≤ n) (Bn n₀ g : Nat) (xs : List (Nat × Nat)) (hlen : xs.length ≤ 1000) (w : World) (hBn : Bn < w.heap.size) (hn₀ : n₀ ≤ w.heap.size)
    (hc : w.cell? ⟨Bn, 0, none⟩ = some (.pointer (some ⟨g, 0, none⟩))) (hL : LgB n₀ w g xs) :
    SeqStopsK F n Tryz.prog 90 #[.pointer (some ⟨Bn, 0, none⟩)] (fun x : Nat × Nat => #[Value.int .i64 (x.2 : Int)]) (Below n₀) (fun ys => ys = xs) (fun pre => pre <+: xs) xs.length w := fun l J Jx W hW hJ hJx hY h0 =>
  lall1_in F n hf hro hn l Bn n₀ g xs hlen J Jx (fun s A o hs => hJ s A _ none hs (World.grownBy_alloc _ _ none) (fun r e => by cases e)) hY W (Nat.le_trans hn₀ hW.size) ((hW.cell (p := ⟨Bn, 0, none⟩) hBn).trans hc) (hL.below (hW.mono hn₀)) h0
def segN (l : List (Nat × Nat)) : List Value := l.map fun x => Value.int .i64 (x.2 : Int)
set_option maxHeartbeats 2000000 in
theorem lsegs_in (F : Fence) (n : Nat) (h3 : F.fn 35) (h4 : F.fn 67) (h5 : F.fn 90) (hro : F.round = none) (hn : 3 ≤ n) (g : Nat) (xs : List (Nat × Nat)) (hlen : xs.length ≤ 1000) (w : World) (hL : LgB w.heap.size w g xs) :
    CallsIn F n Tryz.prog 35 #[.pointer (some ⟨g, 0, none⟩)] w fun e W' => ∃ v, e = .returned v ∧ W'.ownsRow w.heap.size 3 1 v xs.length (segN xs) ∧ Below w.heap.size w W' := by
  have h1 : 1 ≤ n := by omega
  obtain ⟨i0, hi, hz0, hz1, hz2⟩ := info_parts info_ti
  refine callsIn_of_wp_marks Tryz.func35 rfl h3 ?_ hro
  simp only [Tryz.ntmps35, List.size_toArray, List.length_cons, List.length_nil, Nat.reduceAdd, Nat.reduceSub, Array.replicate_succ, Array.replicate_zero, List.push_toArray, List.append_toArray, List.nil_append, List.cons_append]
  gi_wp2_with (gi_at_call 67; refine (lall_in F (n - 1) h4 hro _ _).mono ?_; rintro e w' ⟨rfl, rfl⟩)
  have bO := Boxed.new w 64 (.slice none 0 0)
  have bN := Boxed.new (w.alloc (.cells #[.slice none 0 0] 64)) 38 (.pointer (some ⟨g, 0, none⟩))
  rw [World.size_alloc] at bN
  have hB0 : Below w.heap.size w ((w.alloc (.cells #[.slice none 0 0] 64)).alloc (.cells #[.pointer (some ⟨g, 0, none⟩)] 38)) := ((Below.refl _ w).alloc (Nat.le_refl _) _).alloc (by simp) _
  refine wpIn_rangeFunc_ownG hro h1 (gf := 90) (lb := #[.pointer (some ⟨w.heap.size + 1, 0, none⟩)]) rfl h5 (enters_of Tryz.func90 (by kernel_rfl) rfl)
    (lall_stops F (n - 1) h5 hro (by omega) (w.heap.size + 1) w.heap.size g xs hlen _ (by simp) (by simp; omega) bN.cell (hL.below hB0)) belowK_t (belowK_b (by simp; omega)) (Below.refl _ _) (fun _ => rfl)
    (fun pre W => (∃ v, Boxed W w.heap.size 64 v ∧ W.ownsRow w.heap.size 3 1 v pre.length (segN pre) ∧ (v = .slice none 0 0 ↔ pre = [])) ∧ Below w.heap.size w W)
    (fun _ _ _ => False)
    (OwnFrom.and (Own.from (holdsRow_own w.heap.size w.heap.size 64 3 1 (fun pre : List (Nat × Nat) => pre.length) (fun pre => segN pre) (fun pre v => v = .slice none 0 0 ↔ pre = [])) _) (ownFrom_below (Nat.le_refl _) (by simp; omega)))
    (fun _ _ _ _ _ hs _ _ => hs)
    ⟨⟨_, bO.alloc _, World.ownsRow_nil _ _ _ _, by simp⟩, hB0⟩
    (fun x => { tmps := #[.pointer (some ⟨g, 0, none⟩), undef, .slice none 0 0, .pointer (some ⟨w.heap.size, 0, none⟩), .int .i64 (x.2 : Int), .pointer (some ⟨g, 0, none⟩), .func (.func 90) #[] #[.pointer (some ⟨w.heap.size + 1, 0, none⟩)], .int .i64 (x.2 : Int), undef, undef, undef, undef, undef], defers := [] }) ?assign ?body ?done ?stop
  case assign =>
    intro l x W K hK
    gi_wp2
    exact hK
  case body =>
    rintro l pre x W ⟨⟨v, hv, hrow, hnil⟩, hB⟩ hlt
    have hc := hv.cell
    gi_wp2_with (gi_at_builtin; refine wpListIn_append_own _ rfl _ _ 64 rfl w.heap.size 3 i0 (.int .i64 0) 1 8 Tryz.underlying64 hi hz0 hz1 hz2 rfl (by decide) _ _ _ rfl (hrow.alloc _) ⟨W.heap.size, 0, none⟩ 1 1 [.int .i64 (x.2 : Int)] rfl rfl (cell_one_new _ _ _) (by simp [Value.oneCell']) (by unfold maxLen; omega) (by omega) (by have := hB.size; simp; omega) ?_; intro v' w1 hown' hgrow _; obtain ⟨g', cap', rfl⟩ := ownsRow_succ hown'; obtain ⟨hv1, hv2, hr2, hk2, hb2⟩ := hv.appended (by decide) hrow hB.size (Nat.le_refl _) hown' hgrow; have hc1 := hv1.cell; have hf1 := hv1.frozen)
    exact ⟨hk2.from _, hb2, ⟨_, hv2, by rw [show segN (pre ++ [x]) = segN pre ++ [.int .i64 (x.2 : Int)] by simp [segN]]; simpa using hr2, by simp⟩, hB.trans hb2⟩
  case done =>
    rintro D ys W hD rfl ⟨⟨v, hv, hrow, hnil⟩, hB⟩ hK
    have hc := hv.cell
    gi_wp2
    refine ⟨by simp, .inl ⟨_, _, rfl, run_takeDeferred hK, ?_⟩⟩
    exact ⟨_, results_tmp rfl _ _ _, v, rfl, ownsRow_putObj hrow _ hK rfl, hB.trans (belowK_b (w := w) (Nat.le_refl _) W D _ _ (by simp at hD; omega) hK rfl rfl)⟩
  case stop =>
    rintro D c pre W _ _ h _
    exact h.elim
theorem lsegs_any (g q p bb cb : Nat) (F B : Int) (v : Value) (s : FS) (l : LS) (w : World) (h : LgS w F B g q p bb cb v s l) (hne : l.segs ≠ []) (hl : l.segs.length ≤ 1000) :
    Calls Tryz.prog 35 #[.pointer (some ⟨g, 0, none⟩)] w fun e w' => ∃ v', e = .returned v' ∧ w'.ownsRow w.heap.size 3 1 v' l.segs.length (segN l.segs) ∧ LgS w' F B g q p bb cb v s l ∧ Below w.heap.size w w' := by
  obtain ⟨gs, cap, rfl, hs⟩ := h.lg.seg hne
  refine (callsIn_wide (n := 3)).1 ((lsegs_in Fence.wide 3 trivial trivial trivial rfl (by omega) g l.segs hl w ⟨gs, cap, h.lg.lt, (World.ownsRow.lt h.lg.own gs rfl).2, h.lg.cells.2.1, hs⟩).mono ?_)
  rintro e w' ⟨v', he, ho, hb⟩
  exact ⟨v', he, ho, h.keep (Upd.of_below hb), hb⟩
end Go.Proofs.YtjednaendedpdaaGreat
namespace Go.Proofs.YtjednaendedpdaaGreat
set_option maxRecDepth 100000
set_option linter.unusedVariables false
open Go Go.RowKit

theorem RLg.seg {w : World} {g q : Nat} {v : Value} {l : LS} (h : RLg w g q v l) (hne : l.segs ≠ []) : ∃ gs cap, v = .slice (some ⟨gs, 0, none⟩) l.segs.length cap ∧ gs < w.heap.size ∧ ∀ j s, l.segs[j]? = some s → w.cell? ⟨gs, j * 2, none⟩ = some (.int .i64 (s.1 : Int)) ∧ w.cell? ⟨gs, j * 2 + 1, none⟩ = some (.int .i64 (s.2 : Int)) := by
  rcases h.own.2 with ⟨_, h0⟩ | ⟨gs, cap, cur, hv, _⟩
  · exact absurd (List.eq_nil_of_length_eq_zero (by omega)) hne
  · subst hv
    refine ⟨gs, cap, rfl, (World.ownsRow.lt h.own gs rfl).2, fun j s hj => ?_⟩
    obtain ⟨h1, h2⟩ := segC_at l.segs j s hj
    have hl := (List.getElem?_eq_some_iff.1 hj).1
    rw [Nat.mul_comm] at h1 h2
    exact ⟨(h.own.cellAt _ (by omega)).trans h1, (h.own.cellAt _ (by omega)).trans h2⟩
theorem RLg.keep0 {w w' : World} {g q : Nat} {v : Value} {l : LS} (h : RLg w g q v l) (hu : Upd [] w w') : RLg w' g q v l := h.upd hu (by simp) (fun _ _ => by simp)
theorem rlfree_any (g q p : Nat) (F : Int) (B : Nat) (v : Value) (l : LS) (w : World) (h : RLg w g q v l) (hp : RPa w q p F B) (hl : l.segs.length ≤ B) (hB : B ≤ 256) :
    Calls Tryz.prog 42 #[.pointer (some ⟨g, 0, none⟩)] w fun e w' => e = .returned (.int .i64 ((B - l.segs.length : Nat) : Int)) ∧ Upd [] w w' := by
  obtain ⟨c0, c1, c2⟩ := h.cells
  have BL := Box.mk (fun n => rlblocks_any g q p F B v l (w.drewN n) (h.keep0 ((Upd.refl [] w).drewN n)) (hp.upd ((Upd.refl [] w).drewN n) (by simp)))
  obtain ⟨cap, gs, hv⟩ : ∃ cap a, v = .slice a l.segs.length cap := by
    rcases h.own.2 with ⟨h0, h1⟩ | ⟨gs, cap, cur, hv, _⟩
    · exact ⟨0, none, by rw [h0, h1]⟩
    · exact ⟨cap, some ⟨gs, 0, none⟩, hv⟩
  subst hv
  have hw : IntKind.i64.wrap ((B : Int) - (l.segs.length : Int)) = ((B - l.segs.length : Nat) : Int) := by rw [IntKind.wrap_i64]; omega
  obtain ⟨k, hkk⟩ : ∃ k, k = l.segs.length := ⟨_, rfl⟩
  rw [← hkk] at c1 hw hl ⊢
  clear h hl c0 c2 hkk
  go_enter Tryz.func42, Tryz.ntmps42
  go_wp2_with fail
  go_quiet ((go_at_call 30; exact quiet_calls (BL.out _)))
  go_wp2_with fail
  go_ret
  exact ⟨rfl, (Upd.refl [] w).drewN _⟩
theorem segN_snoc {l : List (Nat × Nat)} {j : Nat} {x : Nat × Nat} (h : l[j]? = some x) : segN (l.take (j + 1)) = segN (l.take j) ++ [.int .i64 (x.2 : Int)] := by
  unfold segN
  rw [List.take_add_one, h, List.map_append]; rfl
theorem info_int14 : (Tryz.prog.info? 3).map (fun i => (i.zero, i.size, i.bytes)) = some (some (.int .i64 0), 1, 8) := by kernel_rfl
set_option maxHeartbeats 2000000 in
theorem rlnums_any (g q : Nat) (v : Value) (l : LS) (w : World) (h : RLg w g q v l) (hne : l.segs ≠ []) (hl : l.segs.length ≤ 1000) :
    Calls Tryz.prog 41 #[.pointer (some ⟨g, 0, none⟩)] w fun e w' => ∃ v', e = .returned v' ∧ w'.ownsRow w.heap.size 3 1 v' l.segs.length (segN l.segs) ∧ Below w.heap.size w w' := by
  obtain ⟨gs, cap, rfl, hgs, hs⟩ := h.seg hne
  obtain ⟨c0, c1, c2⟩ := h.cells
  have HS := Box.mk hs; have HG := Box.mk h.lt; have HGS := Box.mk hgs
  obtain ⟨i0, hi0, hz0, hsz0, hby0⟩ := info_parts info_int14
  obtain ⟨n, hn⟩ : ∃ n, n = l.segs.length := ⟨_, rfl⟩
  rw [← hn] at c1 hl ⊢
  have HN := Box.mk hn
  have C1 := Box.mk c1
  have O0 := Box.mk (show (w.alloc (.cells #[] 3)).ownsRow w.heap.size 3 1 (.slice (some ⟨w.heap.size, 0, none⟩) 0 0) 0 [] from World.ownsRow_lit (base := w.heap.size) (size := 1) (e := 3) w #[] 0 (Nat.le_refl _) (by unfold maxLen; omega) rfl)
  have B0 := Box.mk (show Below w.heap.size w (w.alloc (.cells #[] 3)) from (Below.refl _ _).alloc (Nat.le_refl _) _)
  clear h hs hgs c0 c1 c2 hn hne
  go_enter Tryz.func41, Tryz.ntmps41
  go_wp2_with fail
  go_loopw [3, 4] (fun u i wr => ∃ j : Nat, j ≤ n ∧ i = .int .i64 (j : Int) ∧ wr.ownsRow w.heap.size 3 1 u j (segN (l.segs.take j)) ∧ Below w.heap.size w wr) (fun _ i _ => n - (intOf i).toNat)
  case atStart => exact ⟨0, Nat.zero_le _, rfl, O0.out, B0.out⟩
  case round =>
    clear O0 B0
    obtain ⟨j, hj, rfl, hown, hb⟩ := hrel
    have OW := Box.mk hown; have HB := Box.mk hb
    have c1 := (hb.cell (p := ⟨g, 1, none⟩) HG.out).trans C1.out
    clear hown hb
    by_cases hlt : j < n
    · have hjI : (j : Int) < (n : Int) := by omega
      obtain ⟨x, hx⟩ : ∃ x, l.segs[j]? = some x := ⟨_, List.getElem?_eq_getElem (by rw [← HN.out]; exact hlt)⟩
      have q1 := (HB.out.cell (p := ⟨gs, j * 2 + 1, none⟩) HGS.out).trans (HS.out j x hx).2
      have NX := Box.mk (segN_snoc hx)
      obtain ⟨x2, hx2⟩ : ∃ y, y = x.2 := ⟨_, rfl⟩
      rw [← hx2] at q1 NX
      clear hx hx2
      go_wp2_with (at_builtin; refine wpList_append_own _ rfl (.tmp 15) (.tmp 24) 64 rfl w.heap.size 3 i0 (.int .i64 0) 1 8 Tryz.underlying64 hi0 hz0 hsz0 hby0 rfl (by decide) u3 j _ rfl (own_allocL OW.out _) ⟨wr.heap.size, 0, none⟩ 1 1 [.int .i64 (x2 : Int)] rfl rfl (one_cellL wr _ _) (fun u hu => by simp at hu; subst hu; rfl) (by unfold maxLen; omega) (by omega) (by have := HB.out.size; simp; omega) ?_; intro v' w' hown' hgrow hnil)
      have HON := Box.mk hown'
      have HBN := Box.mk ((HB.out.alloc HB.out.size (.cells #[.int .i64 (x2 : Int)] 3)).grown hgrow (by have := HB.out.size; simp; omega) (fun k hk => (World.ownsRow.lt (own_allocL OW.out (.cells #[.int .i64 (x2 : Int)] 3)) k hk).1))
      clear hown' hgrow hnil OW HB q1 c1
      go_wp2_with fail
      exact ⟨⟨j + 1, hlt, by go_num, by rw [NX.out]; exact HON.out, HBN.out⟩, by simp [intOf]; omega⟩
    · have hjI : ¬ (j : Int) < (n : Int) := by omega
      obtain rfl : j = n := by omega
      clear hlt
      go_wp2_with fail
      go_ret
      refine ⟨_, rfl, ?_, HB.out⟩
      have h := OW.out
      rw [HN.out, List.take_length, ← HN.out] at h
      exact h
set_option maxHeartbeats 2000000 in
theorem rlroom_any (g q p bb cb : Nat) (F B : Nat) (v : Value) (s : FS) (l : LS) (w : World) (h : RLgS w (F : Nat) (B : Nat) g q p bb cb v s l) (hk : l.Ok B) (hd : s.dead = false) :
    Calls Tryz.prog 43 #[.pointer (some ⟨g, 0, none⟩)] w fun e w' => e = .returned (.int .i64 ((s.lroom F l : Nat) : Int)) ∧ RLgS w' (F : Nat) (B : Nat) g q p bb cb v s l ∧ Upd [] w w' := by
  have hB : B ≤ 256 := by have h1 := h.i.hi; have h2 := h.i.lo; have h3 := h.i.few; omega
  have hnb : l.newest.1 < B := hk.blk _ (LS.newest_mem hk.ne)
  have CP := Box.mk (fun p (hp : p < 8) => clean_page (F := F) hd hnb hp)
  obtain ⟨R, hR⟩ : ∃ R, R = s.lroom F l := ⟨_, rfl⟩
  rw [← hR]
  unfold FS.lroom at hR
  rw [hd, if_neg (by decide)] at hR
  have HR0 := Box.mk hR
  have H0 := Box.mk h
  obtain ⟨gs, cap, rfl, hgs, hs⟩ := h.lg.seg hk.ne
  obtain ⟨n, hn, hnx⟩ := LS.newest_at hk.ne
  obtain ⟨s0, s1⟩ := hs n _ hnx
  obtain ⟨c0, c1, c2⟩ := h.lg.cells
  obtain ⟨nb, hnbe⟩ : ∃ x, x = l.newest.1 := ⟨_, rfl⟩
  rw [← hnbe] at CP HR0 hnb s0
  have hfew := hk.few
  have hwk : IntKind.i64.wrap (((n + 1 : Nat) : Int) - 1) = (n : Int) := by rw [IntKind.wrap_i64]; omega
  have hwk2 : IntKind.i64.wrap (n : Int) = (n : Int) := by rw [IntKind.wrap_i64]; omega
  have hnI : (n : Int) < (n : Int) + 1 := by omega
  obtain ⟨a, ha, HA1⟩ : ∃ a : Nat, IntKind.i64.wrap (512 * (nb : Int)) = (a : Int) ∧ Box (a = 512 * nb) := ⟨512 * nb, by rw [IntKind.wrap_i64]; omega, ⟨rfl⟩⟩
  rw [hn] at c1
  have HNB := Box.mk (show nb < B ∧ B ≤ 256 from ⟨hnb, hB⟩)
  clear h hk hR hnb hnbe hs s1 c2 hgs hnx hd hfew hB
  go_enter Tryz.func43, Tryz.ntmps43
  go_upto_region 1 with (fail)
  go_region
  all_goals
    clear s0 c0 c1
    go_wp2_with fail
  clear hwk hwk2 hnI
  have HD := Box.mk (show RLgS w.drew (F : Nat) (B : Nat) g q p bb cb (.slice (some ⟨gs, 0, none⟩) l.segs.length cap) s l from H0.out.keep (Upd.refl [] w).drew)
  go_loopw [4, 5] (fun r y wr => ∃ (Y X : Nat), 1 ≤ Y ∧ Y ≤ 8 ∧ X ≤ 7 ∧ 7 - X < Y ∧ y = .int .i64 (Y : Nat) ∧ r = .int .i64 (X : Nat) ∧ (∀ k, 7 - X < k → k < Y → clnL (s.blk F nb) (7 - k) = true) ∧ (X = 7 ∨ clnL (s.blk F nb) X = false) ∧ RLgS wr (F : Nat) (B : Nat) g q p bb cb (.slice (some ⟨gs, 0, none⟩) l.segs.length cap) s l ∧ Upd [] w wr) (fun _ y _ => 8 - (intOf y).toNat)
  case atStart => exact ⟨1, 7, by omega, by omega, by omega, by omega, rfl, rfl, (fun k h1 h2 => by omega), .inl rfl, HD.out, (Upd.refl [] w).drew⟩
  case round =>
    clear HD
    obtain ⟨Y, X, h1, h8, h7, hxy, rfl, rfl, hall, hdy, hl, hu⟩ := hrel
    have HL := Box.mk hl; have HU := Box.mk hu; have HA := Box.mk hall; have HDY := Box.mk hdy
    obtain ⟨c0, c1, c2⟩ := hl.lg.cells
    clear hl hu hall hdy c1 c2
    by_cases hlt : Y < 8
    · have hltI : (Y : Int) < 8 := by omega
      obtain ⟨b, hb, HB1⟩ : ∃ b : Nat, IntKind.i64.wrap (64 * (Y : Int)) = (b : Int) ∧ Box (b = 64 * Y) := ⟨64 * Y, by rw [IntKind.wrap_i64]; omega, ⟨rfl⟩⟩
      obtain ⟨c, hc, HC1⟩ : ∃ c : Nat, IntKind.i64.wrap ((a : Int) + (b : Int)) = (c : Int) ∧ Box (c = 512 * nb + 64 * Y) := ⟨512 * nb + 64 * Y, by rw [IntKind.wrap_i64, HA1.out, HB1.out]; have := HNB.out; omega, ⟨rfl⟩⟩
      have CL := Box.mk (rpclean_any q p bb cb (F : Nat) (B : Nat) s (c : Nat) 64 wr HL.out.f HL.out.ok HL.out.pa HL.out.i (by have := HC1.out; have := HNB.out; omega) (by omega))
      rw [HC1.out, CP.out Y hlt] at CL
      rw [← HC1.out] at CL
      dsimp only at CL
      cases hcl : clnL (s.blk F nb) (7 - Y) with
      | true =>
        rw [hcl] at CL
        have NA : Box (∀ k, 7 - X < k → k < Y + 1 → clnL (s.blk F nb) (7 - k) = true) := ⟨fun k h1 h2 => by
          rcases Nat.lt_succ_iff_lt_or_eq.1 h2 with h | rfl
          · exact HA.out k h1 h
          · exact hcl⟩
        clear hcl HA
        go_wp2_with fail
        refine CL.out.mono ?_
        rintro e w1 ⟨rfl, hu⟩
        have L1 := Box.mk (HL.out.keep hu); have U1 := Box.mk (HU.out.trans hu)
        clear hu CL c0
        go_wp2_with fail
        exact ⟨⟨Y + 1, X, by omega, by omega, h7, by omega, by go_num, rfl, NA.out, HDY.out, L1.out, U1.out⟩, by simp [intOf]; omega⟩
      | false =>
        rw [hcl] at CL
        have NA : Box (∀ k, 7 - (7 - Y) < k → k < Y + 1 → clnL (s.blk F nb) (7 - k) = true) := ⟨fun k h1 h2 => by omega⟩
        have ND := Box.mk hcl
        have h7Y : IntKind.i64.wrap (7 - (Y : Int)) = ((7 - Y : Nat) : Int) := by rw [IntKind.wrap_i64]; omega
        clear hcl HA
        go_wp2_with fail
        refine CL.out.mono ?_
        rintro e w1 ⟨rfl, hu⟩
        have L1 := Box.mk (HL.out.keep hu); have U1 := Box.mk (HU.out.trans hu)
        clear hu CL c0
        go_wp2_with fail
        exact ⟨⟨Y + 1, 7 - Y, by omega, by omega, by omega, by omega, by go_num, by first | rfl | (congr 1; omega), NA.out, .inr ND.out, L1.out, U1.out⟩, by simp [intOf]; omega⟩
    · have hltI : ¬ (Y : Int) < 8 := by omega
      have HE : Box (R = X) := ⟨by
        rw [HR0.out]
        refine runB_spec 7 _ X h7 (fun j hj => ?_) HDY.out
        have := HA.out (7 - j) (by omega) (by omega)
        rw [show 7 - (7 - j) = j by omega] at this
        exact this⟩
      clear hlt
      go_wp2_with fail
      go_ret
      exact ⟨by rw [HE.out]; rfl, by rw [← hn]; exact HL.out, HU.out⟩
end Go.Proofs.YtjednaendedpdaaGreat
namespace Go.Proofs.YtjednaendedpdaaGreat
set_option maxRecDepth 100000
set_option linter.unusedVariables false
open Go Go.RowKit

theorem segC_one (l : List (Nat × Nat)) : ∀ u ∈ segC l, u.oneCell' = true := by
  intro u hu
  unfold segC at hu
  rw [List.mem_flatMap] at hu
  obtain ⟨s, _, hu⟩ := hu
  simp only [List.mem_cons, List.not_mem_nil, or_false] at hu
  rcases hu with rfl | rfl <;> rfl
set_option maxHeartbeats 1000000 in
theorem sclone_any (gs cap : Nat) (l : List (Nat × Nat)) (w : World) (hl : l.length ≤ 1000) (hc : ∀ j u, (segC l)[j]? = some u → w.cell? ⟨gs, j, none⟩ = some u) :
    Calls Tryz.prog 94 #[.slice (some ⟨gs, 0, none⟩) l.length cap] w fun e w' => ∃ v, e = .returned v ∧ w'.ownsRow w.heap.size 78 2 v l.length (segC l) ∧ Below w.heap.size w w' := by
  obtain ⟨i0, hi0, hz0, hsz0, hby0⟩ := info_parts info_tseg
  have hq := Lib.run_eql_slice_nil (P := Tryz.prog) w 71 78 (some ⟨gs, 0, none⟩) l.length cap 0 0 Tryz.underlying71
  go_enter Tryz.func94, Tryz.ntmps94
  have hcl : ∀ j u, (segC l)[j]? = some u → (w.alloc (.cells #[] 78)).cell? ((⟨gs, 0, none⟩ : Addr).add j) = some u := fun j u hu => by
    have : (⟨gs, 0, none⟩ : Addr).add j = ⟨gs, j, none⟩ := by unfold Addr.add; split <;> simp_all
    rw [this]; exact cellA _ (hc j u hu)
  have hb0 : Below w.heap.size w (w.alloc (.cells #[] 78)) := (Below.refl _ _).alloc (Nat.le_refl _) _
  have hown0 : (w.alloc (.cells #[] 78)).ownsRow w.heap.size 78 2 (.slice (some ⟨w.heap.size, 0, none⟩) 0 0) 0 [] := World.ownsRow_lit (base := w.heap.size) (size := 2) (e := 78) w #[] 0 (Nat.le_refl _) (by unfold maxLen; omega) rfl
  have hll := segC_len l
  go_upto_region 3 with (fail)
  go_wp2_with (at_builtin; refine wpList_append_own _ rfl (.tmp 5) (.tmp 6) 71 rfl w.heap.size 78 i0 _ 2 16 Tryz.underlying71 hi0 hz0 hsz0 hby0 rfl (by decide) (.slice (some ⟨w.heap.size, 0, none⟩) 0 0) 0 [] rfl hown0 ⟨gs, 0, none⟩ l.length cap (segC l) rfl (by omega) hcl (segC_one l) (by unfold maxLen; omega) (by omega) (by simp) ?_; intro v' w' hown' hgrow hnil)
  go_ret
  rw [Nat.zero_add, List.nil_append] at hown'
  exact ⟨v', rfl, hown', hb0.grown hgrow (by simp) (fun k hk => by simp [Value.ownBlock] at hk; omega)⟩
theorem segC_cut (l : List (Nat × Nat)) (i : Nat) : segC (l.take i) = (segC l).take (i * 2) ∧ segC (l.drop i) = (segC l).drop (i * 2) := by
  have e : segC l = segC (l.take i) ++ segC (l.drop i) := by rw [← segC_app, List.take_append_drop]
  rcases Nat.lt_or_ge i l.length with h | h
  · have hl : (segC (l.take i)).length = i * 2 := by rw [segC_len, List.length_take]; omega
    rw [e, ← hl, List.take_left, List.drop_left]; exact ⟨rfl, rfl⟩
  · have hl := segC_len l
    rw [List.take_of_length_le h, List.drop_eq_nil_of_le h, List.take_of_length_le (by omega), List.drop_eq_nil_of_le (by omega)]
    exact ⟨rfl, rfl⟩
theorem segC_erase (l : List (Nat × Nat)) (i : Nat) : segC (l.eraseIdx i) = (segC l).take (i * 2) ++ (segC l).drop ((i + 1) * 2) := by
  rw [List.eraseIdx_eq_take_drop_succ, segC_app, (segC_cut l i).1, (segC_cut l (i + 1)).2]
theorem clear_seg (w : World) (ty : TypeId) (gc o c : Nat) (cur : Array Value) (hg : w.heap[gc]? = some (.cells cur 78 (0, 0))) (ho : o + 2 ≤ cur.size) :
    (Builtin.clear_ #[71] ty #[.slice (some ⟨gc, o, none⟩) 1 c]).run Tryz.prog w = .ok (.tuple #[]) (w.setRow gc (cur.toList.take o ++ Value.int .i64 0 :: Value.int .i64 0 :: cur.toList.drop (o + 2)).toArray) := by
  have hst := run_storeCells_at (P := Tryz.prog) gc o 78 [.int .i64 0, .int .i64 0] 0 cur w hg ho (two_oneR 0 0)
  have hz : ∀ w, (zeroValue 78).run Tryz.prog w = .ok (.agg #[.int .i64 0, .int .i64 0]) w := fun w => by kernel_rfl
  have hzc : (Builtin.zeroCells (Value.agg #[.int .i64 0, .int .i64 0]).cells 1).toList = [Value.int .i64 0, Value.int .i64 0] := by kernel_rfl
  simp only [Nat.add_zero, List.append_assoc, List.cons_append, List.nil_append, List.length_cons, List.length_nil] at hst
  simp [Builtin.clear_, run_underlying Tryz.underlying71, hz, hzc, hst]
set_option maxHeartbeats 2000000 in
theorem sdelete_any (base gc cap : Nat) (l : List (Nat × Nat)) (i : Nat) (w : World) (hl : l.length ≤ 1000) (hi : i < l.length) (ho : w.ownsRow base 78 2 (.slice (some ⟨gc, 0, none⟩) l.length cap) l.length (segC l)) :
    Calls Tryz.prog 93 #[.slice (some ⟨gc, 0, none⟩) l.length cap, .int .i64 (i : Nat), .int .i64 ((i + 1 : Nat) : Int)] w fun e w' => ∃ v, e = .returned v ∧ w'.ownsRow base 78 2 v (l.length - 1) (segC (l.eraseIdx i)) ∧ v.ownBlock = some gc ∧ Upd [gc] w w' := by
  obtain ⟨i0, hi0, hz0, hsz0, hby0⟩ := info_parts info_tseg
  have hcap : l.length ≤ cap := by
    rcases ho.2 with ⟨h, _⟩ | ⟨g, c, cur, hv, _, _, h, _⟩
    · cases h
    · cases hv; exact h
  obtain ⟨cur, hcur, hcs, htk⟩ : ∃ cur, w.heap[gc]? = some (.cells cur 78 (0, 0)) ∧ cur.size = cap * 2 ∧ cur.toList.take (l.length * 2) = segC l := by
    rcases ho.2 with ⟨h, _⟩ | ⟨g, c, cur, hv, _, h1, _, _, h2, h3⟩
    · cases h
    · cases hv; exact ⟨cur, h1, h2, h3⟩
  obtain ⟨n, hn⟩ : ∃ n, n = l.length := ⟨_, rfl⟩
  rw [← hn] at hl hi hcap htk ⊢
  have h1 : (i : Int) ≤ (i : Int) + 1 := by omega
  have h2 : (i : Int) + 1 ≤ (n : Int) := by omega
  have h3 : ¬ (i : Int) = (i : Int) + 1 := by omega
  have h4 : i ≤ cap := by omega
  have h5 : (i : Int) ≤ (cap : Int) := by omega
  have h6 : (n : Int) ≤ (cap : Int) := by omega
  have h7 : i + 1 ≤ n := by omega
  have h8 : (0 : Int) ≤ (i : Int) + 1 := by omega
  rw [show ((i + 1 : Nat) : Int) = (i : Int) + 1 by omega]
  have HB : Box (base ≤ gc) := ⟨(World.ownsRow.lt ho gc rfl).1⟩
  have HCM : Box (cap ≤ maxLen) := ⟨by
    rcases ho.2 with ⟨h, _⟩ | ⟨g, c, cur, hv, _, _, _, h, _⟩
    · cases h
    · cases hv; exact h⟩
  have HN := Box.mk hn
  clear ho hn
  go_enter Tryz.func93, Tryz.ntmps93
  go_upto_region 5 with (fail)
  refine wp_region_mix 6 [.flo, .flo, .flo, .flo, .flo, .flo] (by kernel_rfl) (by kernel_rfl) rfl ?_
  simp only [List.take, List.zip, List.zipWith]
  try go_frame
  refine gm_move (.tmp 0) (.inl rfl) (.slice (some ⟨gc, 0, none⟩) n cap) rfl ?_
  try go_frame
  refine gm_move (.tmp 1) (.inl rfl) (.int .i64 (i : Nat)) rfl ?_
  try go_frame
  refine gm_flo (.slice (some ⟨gc, 0, none⟩) i cap) (fun w1 hw1 => ?_) ?_
  case refine_1 =>
    go_simp
  try go_frame
  refine gm_move (.tmp 0) (.inl rfl) (.slice (some ⟨gc, 0, none⟩) n cap) rfl ?_
  try go_frame
  refine gm_move (.tmp 2) (.inl rfl) (.int .i64 ((i : Int) + 1)) rfl ?_
  try go_frame
  refine gm_flo (.slice (if cap = i + 1 then some ⟨gc, 0, none⟩ else some ⟨gc, (i + 1) * 2, none⟩) (n - (i + 1)) (cap - (i + 1))) (fun w1 hw1 => ?_) ?_
  case refine_1 =>
    go_simp
  try go_frame
  refine gm_nil ?_
  intro w9 hw9 hF9
  simp only [List.drop]
  try go_frame

  have hgc : gc < w.drew.heap.size := (Array.getElem?_eq_some_iff.1 hcur).1
  have hr9 : w9.heap[gc]? = some (.cells cur 78 (0, 0)) := (Below.block hw9 gc hgc).trans hcur
  obtain ⟨ad, had, hnews⟩ : ∃ ad : Addr, (if cap = i + 1 then some (⟨gc, 0, none⟩ : Addr) else some ⟨gc, (i + 1) * 2, none⟩) = some ad ∧ ∀ j u, ((segC l).drop ((i + 1) * 2))[j]? = some u → w9.cell? (ad.add j) = some u := by
    have hlen := segC_len l
    by_cases hc : cap = i + 1
    · rw [if_pos hc]
      refine ⟨_, rfl, fun j u hu => ?_⟩
      rw [List.drop_eq_nil_of_le (by have := HN.out; omega)] at hu; simp at hu
    · rw [if_neg hc]
      refine ⟨_, rfl, fun j u hu => ?_⟩
      have : (⟨gc, (i + 1) * 2, none⟩ : Addr).add j = ⟨gc, (i + 1) * 2 + j, none⟩ := by unfold Addr.add; split <;> simp_all
      rw [this, cell_of_row _ _ _ _ _ _ hr9]
      rw [List.getElem?_drop, ← htk, List.getElem?_take] at hu
      split at hu
      · simpa using hu
      · cases hu
  rw [had]
  have hlen := segC_len l
  have hnl : ((segC l).drop ((i + 1) * 2)).length = (n - (i + 1)) * 2 := by rw [List.length_drop]; have := HN.out; omega
  have hone : ∀ u ∈ (segC l).drop ((i + 1) * 2), u.oneCell' = true := fun u hu => segC_one l u (List.mem_of_mem_drop hu)
  have RA := run_append_room (P := Tryz.prog) (w := w9) 71 71 78 i0 Tryz.underlying71 hi0 gc i cap cur hr9 ad (n - (i + 1)) (cap - (i + 1)) ((segC l).drop ((i + 1) * 2)) (by rw [hsz0]; exact hnl) hnews hone (by omega) (by rw [hsz0, hnl, hcs]; omega)
  rw [hsz0] at RA
  obtain ⟨m, hm, hm1⟩ : ∃ m, i + (n - (i + 1)) = m ∧ n = m + 1 := ⟨n - 1, by omega, by omega⟩
  rw [hm] at RA
  obtain ⟨cur2, hcur2⟩ : ∃ c : Array Value, c = (cur.toList.take (i * 2) ++ (segC l).drop ((i + 1) * 2) ++ cur.toList.drop (i * 2 + ((segC l).drop ((i + 1) * 2)).length)).toArray := ⟨_, rfl⟩
  rw [← hcur2] at RA
  have hc2s : cur2.size = cap * 2 := by
    have hcl : cur.toList.length = cap * 2 := by rw [Array.length_toList, hcs]
    rw [hcur2, List.size_toArray, List.length_append, List.length_append, hnl, List.length_take, List.length_drop, hcl]; omega
  obtain ⟨W5, hW5⟩ : ∃ W, W = w9.setRow gc cur2 := ⟨_, rfl⟩
  rw [← hW5] at RA
  have hr5 : W5.heap[gc]? = some (.cells cur2 78 (0, 0)) := by rw [hW5]; exact setRow_heap _ _ _ _ _ _ hr9
  have CL := fun c => clear_seg W5 0 gc (m * 2) c cur2 hr5 (by omega)
  have HU5 : Box (Upd [gc] w W5) := ⟨by
    rw [hW5]
    have h0 := (GrS.setRow (b := gc) (Gr.toS hw9 [gc]) (.inr (List.mem_singleton.2 rfl)) cur2).upd
    exact (Upd.refl [gc] w).drew.trans h0⟩
  have HC2 : Box (cur2.toList.take (m * 2) = segC (l.eraseIdx i)) := ⟨by
    have hcl : cur.toList.length = cap * 2 := by rw [Array.length_toList, hcs]
    rw [segC_erase, hcur2]
    show (List.take (m * 2) (cur.toList.take (i * 2) ++ (segC l).drop ((i + 1) * 2) ++ _)) = _
    rw [List.take_append_of_le_length (by rw [List.length_append, hnl, List.length_take, hcl]; omega), List.take_of_length_le (by rw [List.length_append, hnl, List.length_take, hcl]; omega)]
    congr 1
    rw [← htk, List.take_take, show min (i * 2) (n * 2) = i * 2 by omega]⟩
  have HR5 := Box.mk hr5
  have hmc : ¬ cap = m := by omega
  have HCS := Box.mk hc2s
  have hm0 : (m : Int) ≤ (m : Int) + 1 := by omega
  have HIM : Box (i ≤ m ∧ m + 1 ≤ cap ∧ m ≤ 1000) := ⟨by omega⟩
  subst hm1
  clear hcur2 hW5 hr9 hw9 hF9 hnews hcur hcs htk hr5 had hone hnl hgc hc2s hlen
  go_wp2_with (at_builtin; refine wpList_append_run rfl (.tmp 22) (.tmp 25) 71 rfl rfl rfl RA ?_)
  have hn1 : m + 1 = l.length := HN.out
  go_ret
  refine ⟨_, rfl, ⟨?_, .inr ⟨gc, cap, _, rfl, HB.out, setRow_heap _ _ _ _ _ _ HR5.out, by have := HIM.out; omega, HCM.out, ?_, ?_⟩⟩, rfl, ?_⟩
  · rw [segC_len, List.length_eraseIdx, if_pos (by have := HIM.out; omega)]; omega
  · have hcl : cur2.toList.length = cap * 2 := by rw [Array.length_toList, HCS.out]
    have := HIM.out
    rw [List.size_toArray, List.length_append, List.length_cons, List.length_cons, List.length_take, List.length_drop, hcl]; omega
  · have hcl : cur2.toList.length = cap * 2 := by rw [Array.length_toList, HCS.out]
    have := HIM.out
    show List.take _ (_ ++ _) = _
    rw [show m + 1 - 1 = m by omega, List.take_append_of_le_length (by rw [List.length_take, hcl]; omega), List.take_take, Nat.min_self]
    exact HC2.out
  · have h0 := (GrS.setRow (b := gc) (GrS.refl [gc] W5) (.inr (List.mem_singleton.2 rfl)) (cur2.toList.take (m * 2) ++ Value.int .i64 0 :: Value.int .i64 0 :: cur2.toList.drop (m * 2 + 2)).toArray).upd
    exact HU5.out.trans h0
end Go.Proofs.YtjednaendedpdaaGreat
