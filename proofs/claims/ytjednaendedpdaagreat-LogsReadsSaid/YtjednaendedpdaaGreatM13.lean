/- Logs: number. slices.Reverse of a log's segments. Logs: what writing, erasing and making a segment leave, torn or not. Logs: what a record's pages leave, torn or not. Logs: what Append's record leaves in its block, torn or not. Logs: what making a segment and dropping one leave, torn or not. -/
import Derived.Test.YtjednaendedpdaaGreatM10
import Derived.Test.YtjednaendedpdaaGreatM06
import Derived.Test.YtjednaendedpdaaGreatM12
import Derived.WalkKit
import Derived.RegionTactic
import Derived.Test.YtjednaendedpdaaGreatM04
import Derived.Test.YtjednaendedpdaaGreatM07
namespace Go.Proofs.YtjednaendedpdaaGreat
set_option maxRecDepth 100000
set_option linter.unusedVariables false
open Go Go.RowKit

theorem rep255 : (⟨(Lib.repeatL [255] 56).toArray⟩ : ByteArray) = ⟨(List.replicate 56 (255 : UInt8)).toArray⟩ := by decide
set_option maxHeartbeats 4000000 in
theorem lnumber_any (s : ByteArray) (hsz : s.size = 64) (w : World) : Calls Tryz.prog 28 #[.string s] w fun e w' => e = .returned (.int .i64 (numL s.data.toList : Nat)) ∧ Below w.heap.size w w' := by
  obtain ⟨N, hN⟩ : ∃ N, N = leNat ((s.data.toList.drop 1).take 6) := ⟨_, rfl⟩
  have hcut : s.extract 1 7 = ⟨((s.data.toList.drop 1).take 6).toArray⟩ := by apply ba_ext; rw [ba_cut]
  have GE := Box.mk (fun w => cget_any (s.extract 1 7) (by rw [ByteArray.size_extract]; omega) w)
  rw [show num (s.extract 1 7) = N by rw [hN, hcut]; rfl] at GE
  have hN48 : N < 281474976710656 := by
    have := leNat_lt ((s.data.toList.drop 1).take 6)
    have h2 : ((s.data.toList.drop 1).take 6).length = 6 := by rw [List.length_take, List.length_drop]; have : s.data.toList.length = 64 := by rw [← hsz]; simp
                                                               omega
    rw [h2, ← hN] at this; exact this
  obtain ⟨R, hR⟩ : ∃ R, R = numL s.data.toList := ⟨_, rfl⟩
  rw [← hR]
  unfold numL at hR
  rw [← hN] at hR
  dsimp only at hR
  by_cases c0 : N = 0
  · have c0I : (N : Int) < 1 := by omega
    have HR : Box (R = 0) := ⟨by rw [hR, if_pos (.inl c0)]⟩
    clear hR hN hcut c0
    go_enter Tryz.func28, Tryz.ntmps28
    go_wp2_with fail
    refine (GE.out _).mono ?_
    rintro e w1 ⟨rfl, rfl⟩
    go_wp2_with fail
    go_ret
    rw [HR.out]; exact ⟨rfl, Below.refl _ _⟩
  · have c0I : ¬ (N : Int) < 1 := by omega
    have BG := Box.mk (fun w => lbegin_any N hN48 w)
    have RP := Box.mk (fun w => Tryz.strings_Repeat_main ⟨#[255]⟩ 56 w (by omega) (by omega) (by decide) (by decide))
    have h255 : (⟨#[255]⟩ : ByteArray).data.toList = [255] := rfl
    rw [h255] at RP
    rw [rep255] at RP
    have hfl : ∀ b r : ByteArray, b = ⟨(begL N).toArray⟩ → r = ⟨(List.replicate 56 (255 : UInt8)).toArray⟩ → (b ++ ⟨#[0]⟩ ++ r).data.toList = firstL N := fun b r hb hr => by
      rw [hb, hr]; unfold firstL; simp
    obtain ⟨b, hb⟩ : ∃ b : ByteArray, b = ⟨(begL N).toArray⟩ := ⟨_, rfl⟩
    obtain ⟨r, hr⟩ : ∃ r : ByteArray, r = ⟨(List.replicate 56 (255 : UInt8)).toArray⟩ := ⟨_, rfl⟩
    have hX := hfl b r hb hr
    have hbs : b.size = 7 := by rw [hb]; simp [ByteArray.size, begL, leList_length]
    have hrs : r.size = 56 := by rw [hr]; simp [ByteArray.size]
    rw [← hb] at BG
    rw [← hr] at RP
    clear hb hr hfl hcut
    by_cases c1 : firstL N = s.data.toList
    · have c1I : ((b ++ ⟨#[0]⟩ ++ r).toList == s.toList) = true := by rw [beq_iff_eq, ByteArray.toList_eq, ByteArray.toList_eq, hX, c1]
      have HR : Box (R = N) := ⟨by rw [hR, if_neg (by intro h; rcases h with h | h; exact c0 h; exact h c1)]⟩
      clear hR hN c0 hX c1
      go_enter Tryz.func28, Tryz.ntmps28
      go_wp2_with fail
      refine (GE.out _).mono ?_
      rintro e w1 ⟨rfl, rfl⟩
      go_wp2_with fail
      refine (BG.out _).mono ?_
      rintro e w2 ⟨rfl, hb2⟩
      go_wp2_with fail
      refine (RP.out _).mono ?_
      rintro e w3 ⟨rfl, hb3⟩
      have BE := Box.mk (hb2.trans (hb3.mono hb2.size))
      clear hb2 hb3
      go_wp2_with fail
      go_ret
      rw [HR.out]; exact ⟨rfl, BE.out⟩
    · have c1I : ((b ++ ⟨#[0]⟩ ++ r).toList == s.toList) = false := by rw [beq_eq_false_iff_ne, ByteArray.toList_eq, ByteArray.toList_eq, hX]; exact c1
      have HR : Box (R = 0) := ⟨by rw [hR, if_pos (.inr c1)]⟩
      clear hR hN c0 hX c1
      go_enter Tryz.func28, Tryz.ntmps28
      go_wp2_with fail
      refine (GE.out _).mono ?_
      rintro e w1 ⟨rfl, rfl⟩
      go_wp2_with fail
      refine (BG.out _).mono ?_
      rintro e w2 ⟨rfl, hb2⟩
      go_wp2_with fail
      refine (RP.out _).mono ?_
      rintro e w3 ⟨rfl, hb3⟩
      have BE := Box.mk (hb2.trans (hb3.mono hb2.size))
      clear hb2 hb3
      go_wp2_with fail
      go_ret
      rw [HR.out]; exact ⟨rfl, BE.out⟩
end Go.Proofs.YtjednaendedpdaaGreat
namespace Go.Proofs.YtjednaendedpdaaGreat
set_option maxRecDepth 100000
set_option linter.unusedVariables false
open Go Go.RowKit

/-- The i outermost pairs are exchanged. -/
def revd (l : List (Nat × Nat)) (i : Nat) : List (Nat × Nat) := (List.range l.length).map fun k => if k < i ∨ l.length - i ≤ k then l.getD (l.length - 1 - k) (0, 0) else l.getD k (0, 0)
theorem revd_len (l : List (Nat × Nat)) (i : Nat) : (revd l i).length = l.length := by simp [revd]
theorem revd_at (l : List (Nat × Nat)) (i k : Nat) (h : k < l.length) : (revd l i)[k]? = some (if k < i ∨ l.length - i ≤ k then l.getD (l.length - 1 - k) (0, 0) else l.getD k (0, 0)) := by simp [revd, h]
theorem revd_zero (l : List (Nat × Nat)) : revd l 0 = l := by
  apply List.ext_getElem?
  intro k
  by_cases h : k < l.length
  · rw [revd_at _ _ _ h, if_neg (by omega), List.getD_eq_getElem?_getD, List.getElem?_eq_getElem h]; rfl
  · rw [List.getElem?_eq_none (by rw [revd_len]; omega), List.getElem?_eq_none (by omega)]
theorem revd_all (l : List (Nat × Nat)) (i : Nat) (h : l.length ≤ 2 * i + 1) : revd l i = l.reverse := by
  apply List.ext_getElem?
  intro k
  by_cases hk : k < l.length
  · rw [revd_at _ _ _ hk, List.getElem?_reverse hk]
    by_cases h1 : k < i ∨ l.length - i ≤ k
    · rw [if_pos h1, List.getD_eq_getElem?_getD, List.getElem?_eq_getElem (show l.length - 1 - k < l.length by omega)]; rfl
    · rw [if_neg h1, show l.length - 1 - k = k by omega, List.getD_eq_getElem?_getD, List.getElem?_eq_getElem hk]; rfl
  · rw [List.getElem?_eq_none (by rw [revd_len]; omega), List.getElem?_eq_none (by simp; omega)]
theorem revd_set (l : List (Nat × Nat)) (i : Nat) (h : 2 * i + 1 < l.length) : ((revd l i).set i (l.getD (l.length - 1 - i) (0, 0))).set (l.length - 1 - i) (l.getD i (0, 0)) = revd l (i + 1) := by
  apply List.ext_getElem?
  intro k
  by_cases hk : k < l.length
  · rw [revd_at _ _ _ hk]
    by_cases h1 : k = l.length - 1 - i
    · subst h1
      rw [List.getElem?_set_self (by rw [List.length_set, revd_len]; omega), if_pos (by omega), show l.length - 1 - (l.length - 1 - i) = i by omega]
    · rw [List.getElem?_set_ne (by omega)]
      by_cases h2 : k = i
      · subst h2
        rw [List.getElem?_set_self (by rw [revd_len]; omega), if_pos (by omega)]
      · rw [List.getElem?_set_ne (by omega), revd_at _ _ _ hk]
        by_cases h3 : k < i ∨ l.length - i ≤ k
        · rw [if_pos h3, if_pos (by omega)]
        · rw [if_neg h3, if_neg (by omega)]
  · rw [List.getElem?_eq_none (by rw [List.length_set, List.length_set, revd_len]; omega), List.getElem?_eq_none (by rw [revd_len]; omega)]
theorem segC_set (l : List (Nat × Nat)) (i : Nat) (x : Nat × Nat) (h : i < l.length) : segC (l.set i x) = (segC l).take (i * 2) ++ [.int .i64 (x.1 : Int), .int .i64 (x.2 : Int)] ++ (segC l).drop (i * 2 + 2) := by
  rw [List.set_eq_take_append_cons_drop, if_pos h, segC_app, (segC_cut l i).1, show segC (x :: l.drop (i + 1)) = [.int .i64 (x.1 : Int), .int .i64 (x.2 : Int)] ++ segC (l.drop (i + 1)) from rfl, (segC_cut l (i + 1)).2, List.append_assoc, show (i + 1) * 2 = i * 2 + 2 by omega]
theorem seg_put (l : List (Nat × Nat)) (rest : List Value) (i : Nat) (x : Nat × Nat) (h : i < l.length) : (segC l ++ rest).take (i * 2) ++ [.int .i64 (x.1 : Int), .int .i64 (x.2 : Int)] ++ (segC l ++ rest).drop (i * 2 + 2) = segC (l.set i x) ++ rest := by
  have hl := segC_len l
  rw [segC_set l i x h, List.take_append_of_le_length (by omega), List.drop_append_of_le_length (by omega)]
  simp
theorem seg_get (l : List (Nat × Nat)) (rest : List Value) (i : Nat) (x : Nat × Nat) (h : l[i]? = some x) : (segC l ++ rest).toArray[i * 2]? = some (.int .i64 (x.1 : Int)) ∧ (segC l ++ rest).toArray[i * 2 + 1]? = some (.int .i64 (x.2 : Int)) := by
  have hl := segC_len l
  have hi := (List.getElem?_eq_some_iff.1 h).1
  have := segC_at l i x h
  rw [show 2 * i = i * 2 by omega] at this
  simp only [List.getElem?_toArray]
  rw [List.getElem?_append_left (by omega), List.getElem?_append_left (by omega)]
  exact this
theorem set2 {α : Type} (a b : α) : ∀ (k : Nat) (l : List α), k + 1 < l.length → (l.set k a).set (k + 1) b = l.take k ++ [a, b] ++ l.drop (k + 2)
  | 0, _ :: _ :: _, _ => rfl
  | k + 1, x :: l, h => by
    have := set2 a b k l (by simpa using h)
    simp only [List.set_cons_succ, List.take_succ_cons, List.cons_append, List.drop_succ_cons]
    rw [this]
theorem row_put {w : World} {gs : Nat} {cs : List Value} {t : TypeId} (h : w.heap[gs]? = some (.cells cs.toArray t (0, 0))) (k : Nat) (v : Value) : (w.setCell ⟨gs, k, none⟩ v).heap[gs]? = some (.cells (cs.set k v).toArray t (0, 0)) := by
  rw [heap_setCell_same _ _ _ _ _ _ h]; simp
theorem row_put2 {w : World} {gs : Nat} {l : List (Nat × Nat)} {rest : List Value} {t : TypeId} (h : w.heap[gs]? = some (.cells (segC l ++ rest).toArray t (0, 0))) (i : Nat) (x : Nat × Nat) (hi : i < l.length) : ((w.setCell ⟨gs, i * 2, none⟩ (.int .i64 (x.1 : Int))).setCell ⟨gs, i * 2 + 1, none⟩ (.int .i64 (x.2 : Int))).heap[gs]? = some (.cells (segC (l.set i x) ++ rest).toArray t (0, 0)) := by
  have hl := segC_len l
  rw [row_put (row_put h _ _) _ _, set2 _ _ _ _ (by rw [List.length_append]; omega), seg_put l rest i x hi]
set_option maxHeartbeats 4000000 in
theorem sreverse_any (gs cap : Nat) (l : List (Nat × Nat)) (rest : List Value) (w : World) (hl : l.length ≤ 1000) (hr : w.heap[gs]? = some (.cells (segC l ++ rest).toArray 78 (0, 0))) :
    Calls Tryz.prog 29 #[.slice (some ⟨gs, 0, none⟩) l.length cap] w fun e w' => e = .returned (.tuple #[]) ∧ w'.heap[gs]? = some (.cells (segC l.reverse ++ rest).toArray 78 (0, 0)) ∧ Upd [gs] w w' := by
  obtain ⟨n, hn⟩ : ∃ n, n = l.length := ⟨_, rfl⟩
  have HN := Box.mk hn
  rw [← hn] at hl ⊢
  have R0 := Box.mk (show w.heap[gs]? = some (.cells (segC (revd l 0) ++ rest).toArray 78 (0, 0)) by rw [revd_zero]; exact hr)
  clear hr hn
  go_enter Tryz.func29, Tryz.ntmps29
  go_wp2_with fail
  go_loopw [2, 3] (fun a b wr => ∃ i : Nat, 2 * i ≤ n ∧ a = .int .i64 (i : Nat) ∧ b = .int .i64 ((n : Int) - 1 - (i : Int)) ∧ wr.heap[gs]? = some (.cells (segC (revd l i) ++ rest).toArray 78 (0, 0)) ∧ Upd [gs] w wr) (fun a _ _ => n - (intOf a).toNat)
  case atStart => exact ⟨0, by omega, rfl, int_congr (by omega), R0.out, Upd.refl _ _⟩
  case round =>
    clear R0
    obtain ⟨i, hi, rfl, rfl, hrow, hu⟩ := hrel
    have HR := Box.mk hrow; have HU := Box.mk hu
    have HGS := Box.mk (show gs < wr.heap.size from (Array.getElem?_eq_some_iff.1 hrow).1)
    clear hrow hu
    by_cases hlt : 2 * i + 1 < n
    · obtain ⟨j, hj, HJ⟩ : ∃ j : Nat, (n : Int) - 1 - (i : Int) = (j : Int) ∧ Box (j = n - 1 - i) := ⟨n - 1 - i, by omega, ⟨rfl⟩⟩
      rw [hj]
      have hij : (i : Int) < (j : Int) := by omega
      have hin : (i : Int) < (n : Int) := by omega
      have hjn : (j : Int) < (n : Int) := by omega
      have hin2 : i < n := by omega
      have hjn2 : j < n := by omega
      obtain ⟨x, hx⟩ : ∃ x, x = l.getD i (0, 0) := ⟨_, rfl⟩
      obtain ⟨y, hy⟩ : ∃ y, y = l.getD j (0, 0) := ⟨_, rfl⟩
      obtain ⟨cx1, cx2⟩ := seg_get (revd l i) rest i x (by rw [revd_at _ _ _ (by have := HN.out; omega), if_neg (by have := HN.out; omega), hx])
      obtain ⟨cy1, cy2⟩ := seg_get (revd l i) rest j y (by rw [revd_at _ _ _ (by have := HN.out; omega), if_neg (by have := HN.out; omega), hy])
      have HXY := Box.mk (And.intro hx hy)
      have HLT := Box.mk hlt; have HJI := Box.mk hj
      clear hx hy hlt hj hi
      have hr9 := HR.out
      have e1 := (cell_of_row _ _ _ _ _ _ hr9).trans cx1
      have e2 := (cell_of_row _ _ _ _ _ _ hr9).trans cx2
      have e3 := (cell_of_row _ _ _ _ _ _ hr9).trans cy1
      have e4 := (cell_of_row _ _ _ _ _ _ hr9).trans cy2
      have f1 : wr.frozen? ⟨gs, i * 2, none⟩ = false := frozen_of_row _ _ _ _ _ hr9
      have f2 : wr.frozen? ⟨gs, i * 2 + 1, none⟩ = false := frozen_of_row _ _ _ _ _ hr9
      have f3 : wr.frozen? ⟨gs, j * 2, none⟩ = false := frozen_of_row _ _ _ _ _ hr9
      have f4 : wr.frozen? ⟨gs, j * 2 + 1, none⟩ = false := frozen_of_row _ _ _ _ _ hr9
      clear hr9 cx1 cx2 cy1 cy2
      obtain ⟨x1, hx1⟩ : ∃ a : Int, a = (x.1 : Int) := ⟨_, rfl⟩
      obtain ⟨x2, hx2⟩ : ∃ a : Int, a = (x.2 : Int) := ⟨_, rfl⟩
      obtain ⟨y1, hy1⟩ : ∃ a : Int, a = (y.1 : Int) := ⟨_, rfl⟩
      obtain ⟨y2, hy2⟩ : ∃ a : Int, a = (y.2 : Int) := ⟨_, rfl⟩
      rw [← hx1] at e1
      rw [← hx2] at e2
      rw [← hy1] at e3
      rw [← hy2] at e4
      have HX := Box.mk (And.intro hx1 (And.intro hx2 (And.intro hy1 hy2)))
      clear hx1 hx2 hy1 hy2
      go_wp2_with fail
      go_region
      go_wp2_with fail
      have hr9 := HR.out
      have hrl := revd_len l i
      have hi' : i < (revd l i).length := by have := HN.out; omega
      have hj' : j < ((revd l i).set i y).length := by rw [List.length_set]; have := HN.out; omega
      have q4 := row_put2 (row_put2 hr9 i y hi') j x hj'
      have HW : Box (((revd l i).set i y).set j x = revd l (i + 1)) := ⟨by
        have := revd_set l i (by have := HN.out; have := HLT.out; omega)
        rw [HXY.out.1, HXY.out.2, show j = l.length - 1 - i by rw [HJ.out, HN.out]]; exact this⟩
      rw [HW.out, ← HX.out.1, ← HX.out.2.1, ← HX.out.2.2.1, ← HX.out.2.2.2] at q4
      exact ⟨⟨i + 1, by have := HLT.out; omega, by go_num, int_congr (by have := HJI.out; omega), q4, (((((HU.out.setCell (.inl (List.mem_singleton.2 rfl)) _).setCell (.inl (List.mem_singleton.2 rfl)) _).setCell (.inl (List.mem_singleton.2 rfl)) _).setCell (.inl (List.mem_singleton.2 rfl)) _)).drew⟩, by have := HLT.out; simp [intOf]; omega⟩
    · have hij : ¬ (i : Int) < (n : Int) - 1 - (i : Int) := by omega
      have HE : Box (revd l i = l.reverse) := ⟨revd_all l i (by have := HN.out; omega)⟩
      clear hlt
      go_wp2_with fail
      go_end0
      exact ⟨rfl, by rw [← HE.out]; exact HR.out, HU.out⟩
end Go.Proofs.YtjednaendedpdaaGreat
namespace Go.Proofs.YtjednaendedpdaaGreat
set_option maxRecDepth 100000
set_option linter.unusedVariables false
open Go Go.RowKit

/-- Written, perhaps torn. -/
def FS.wr (s : FS) (A : Nat) (l : List UInt8) : FS := { s.step with b := progBytes s.b A l s.goes s.keep s.mask }
def FS.er (s : FS) (K : Nat) : FS := { s.step with n := s.bump K, b := eraseUpto s.b (512 * K) 512 s.goes s.keep s.mask }
theorem step_dead {s : FS} (h : s.dead = false) : s.step.dead = s.goes := by
  unfold FS.step FS.goes; dsimp only; split
  · exact h
  · rfl
theorem toldI_zero {g : Bool} : toldI g = 0 ↔ g = false := by unfold toldI; cases g <;> simp
theorem toldI_ne {g : Bool} : toldI g ≠ 0 ↔ g = true := by unfold toldI; cases g <;> simp
theorem toldI_t : toldI true = 2 := by unfold toldI; rfl
theorem toldI_f : toldI false = 0 := by unfold toldI; rfl
theorem on_yes {L A n : Nat} (h : A + n ≤ L) : onB L (A : Int) (n : Int) = true := by unfold onB; rw [decide_eq_true_iff]; omega
theorem lw_one {s : FS} {F B at_ : Nat} {l : List UInt8} (hd : s.dead = false) (hok : s.Ok) (hin : In s.n.length F B) (hl : l ≠ []) (h : at_ + l.length ≤ 512 * B) (hp : at_ % 64 + l.length ≤ 64) : s.pwrite F B at_ l = (s.wr (512 * F + at_) l, toldI s.goes) := by
  have h1 : 1 ≤ l.length := by cases l with | nil => exact absurd rfl hl | cons a b => simp
  have hlen := hok.len; have hhi := hin.hi
  unfold FS.pwrite
  rw [if_pos ((inB_iff _ _ _).2 (by omega))]
  obtain ⟨k, hk⟩ : ∃ k, l.length = k + 1 := ⟨l.length - 1, by omega⟩
  have hA : (512 * (F : Int) + (at_ : Int)) = ((512 * F + at_ : Nat) : Int) := by omega
  rw [hA]
  have hm : min l.length (64 - (((512 * F + at_ : Nat) : Int) % 64).toNat) = l.length := by omega
  have hgo := FS.program_go s (512 * F + at_) l hd hl (by omega) (by omega)
  rw [show FS.pw l.length s ((512 * F + at_ : Nat) : Int) l = FS.pw (k + 1) s ((512 * F + at_ : Nat) : Int) l by rw [hk], FS.pw_step _ _ _ _ hl, hm, List.take_length, hgo, List.drop_length, FS.pw_nil]
  cases hg : s.goes with
  | true => rw [toldI_t]; simp only [ne_eq]; rw [if_pos (by decide)]; unfold FS.wr; rw [hg]
  | false => rw [toldI_f]; simp only [ne_eq]; rw [if_neg (by decide)]; unfold FS.wr; rw [hg]
theorem wr_ok {s : FS} (h : s.Ok) (A : Nat) (l : List UInt8) : (s.wr A l).Ok ∧ (s.wr A l).n = s.n ∧ (s.wr A l).b.length = s.b.length :=
  ⟨h.step.setb _ (progBytes_length _ _ _ _ _ _), rfl, progBytes_length _ _ _ _ _ _⟩
theorem wr_dead {s : FS} (h : s.dead = false) (A : Nat) (l : List UInt8) : (s.wr A l).dead = s.goes := step_dead h
theorem wr_out (s : FS) (A : Nat) (l : List UInt8) (k : Nat) (h : k < A ∨ A + l.length ≤ k) : (s.wr A l).b[k]? = s.b[k]? := progBytes_get _ _ _ _ _ _ _ (by omega)
/-- A byte that was erased, behind a writing. -/
def FS.wb (s : FS) (i : Nat) (c : UInt8) : UInt8 := progByte s.goes s.keep s.mask i 255 c
theorem wr_in (s : FS) (A : Nat) (l : List UInt8) (i : Nat) (c : UInt8) (hi : l[i]? = some c) (he : s.b[A + i]? = some 255) : (s.wr A l).b[A + i]? = some (s.wb i c) := by
  unfold FS.wr FS.wb
  rw [progBytes_at, he, Option.map_some, if_pos (by omega), show A + i - A = i by omega, hi]
theorem land255 (c : UInt8) : (255 : UInt8) &&& c = c := and255 c
theorem lwb_go {s : FS} (h : s.goes = false) (i : Nat) (c : UInt8) : s.wb i c = c := by unfold FS.wb progByte; rw [h, if_pos (.inl rfl), and255]
theorem lwb_255 (s : FS) (i : Nat) : s.wb i 255 = 255 := by
  unfold FS.wb progByte
  split
  · rfl
  · split
    · rw [UInt8.or_comm, or255]; rfl
    · rfl
theorem lor2 (m : UInt8) : (2 ||| m : UInt8) ≠ 1 := by
  intro h
  have := congrArg (fun x : UInt8 => x.toBitVec.getLsbD 1) h
  simp at this
theorem lwb_2 (s : FS) (i : Nat) : s.wb i 2 ≠ 1 := by
  unfold FS.wb progByte
  split
  · decide
  · split
    · rw [and255]; exact lor2 _
    · decide
/-- What an erasing sets. -/
def FS.ex (s : FS) (pg : Nat) : UInt8 := if s.goes = false ∨ (pg : Int) < s.keep then 255 else if (pg : Int) = s.keep then s.mask else 0
theorem eraseByte_or (s : FS) (pg : Nat) (old : UInt8) : eraseByte s.goes s.keep s.mask pg old = old ||| s.ex pg := by
  unfold eraseByte FS.ex
  split
  · rw [or255]
  · split
    · rfl
    · simp
theorem er_at (s : FS) (K k : Nat) : (s.er K).b[k]? = (s.b[k]?).map fun old => if 512 * K ≤ k ∧ k < 512 * K + 512 then old ||| s.ex ((k - 512 * K) / 64) else old := by
  unfold FS.er; rw [eraseUpto_at]; congr 1; funext old
  by_cases h : 512 * K ≤ k ∧ k < 512 * K + 512
  · rw [if_pos h, if_pos h, eraseByte_or]
  · rw [if_neg h, if_neg h]
theorem ex_go {s : FS} (h : s.goes = false) (pg : Nat) : s.ex pg = 255 := by unfold FS.ex; rw [if_pos (.inl h)]
/-- Where the first page is what it was, nothing is erased. -/
theorem ex_zero {s : FS} (hok : s.Ok) (h : s.ex 0 = 0) : ∀ pg, s.ex pg = 0 := by
  intro pg
  have hk := hok.keep
  unfold FS.ex at h ⊢
  by_cases h1 : s.goes = false ∨ ((0 : Nat) : Int) < s.keep
  · rw [if_pos h1] at h; exact absurd h (by decide)
  · rw [if_neg h1] at h
    have h2 : ¬ s.goes = false := fun h' => h1 (.inl h')
    have h3 : ¬ ((0 : Nat) : Int) < s.keep := fun h' => h1 (.inr h')
    have hk0 : s.keep = 0 := by omega
    rw [if_pos (show ((0 : Nat) : Int) = s.keep by omega)] at h
    by_cases hp : pg = 0
    · subst hp; rw [if_neg h1, if_pos (show ((0 : Nat) : Int) = s.keep by omega)]; exact h
    · rw [if_neg (show ¬ (s.goes = false ∨ (pg : Int) < s.keep) from fun h' => h'.elim h2 (fun h' => by omega)), if_neg (show ¬ (pg : Int) = s.keep by omega)]
theorem er_ok {s : FS} (h : s.Ok) (K : Nat) : (s.er K).Ok ∧ (s.er K).n.length = s.n.length ∧ (s.er K).b.length = s.b.length := by
  have hs := h.step
  refine ⟨⟨hs.armed, hs.keep, ?_, ?_⟩, ?_, eraseUpto_length _ _ _ _ _ _⟩
  · show (eraseUpto _ _ _ _ _ _).length = 512 * (s.bump K).length
    rw [eraseUpto_length]; unfold FS.bump; rw [List.length_set]; exact h.len
  · show 1 ≤ (s.bump K).length ∧ (s.bump K).length ≤ 256
    unfold FS.bump; rw [List.length_set]; exact h.few
  · show (s.bump K).length = _
    unfold FS.bump; rw [List.length_set]
theorem er_dead {s : FS} (h : s.dead = false) (K : Nat) : (s.er K).dead = s.goes := step_dead h
theorem perase_one {s : FS} {F B k : Nat} (hd : s.dead = false) (hin : In s.n.length F B) (hk : k < B) : s.perase F B k = (s.er (F + k), toldI s.goes) := by
  have hhi := hin.hi
  unfold FS.perase
  rw [if_pos (by omega)]
  unfold FS.erase
  rw [hd, if_neg (by decide), if_neg (by unfold blkB; rw [decide_eq_false_iff_not]; omega)]
  have e : ((F : Int) + (k : Int)).toNat = F + k := by omega
  rw [e]; rfl
/-- A page that is no segment's stays so. -/
theorem numL_or (p : List UInt8) (x : UInt8) (hx : x ≠ 0) : numL (p.map (· ||| x)) = 0 := by
  unfold numL
  dsimp only
  split
  · rfl
  · rename_i h
    exfalso
    have h2 : firstL _ = p.map (· ||| x) := Classical.byContradiction fun h' => h (.inr h')
    have h7 := congrArg (fun l : List UInt8 => l[7]?) h2
    have hf : ∀ n, (firstL n)[7]? = some 0 := fun n => by
      unfold firstL begL
      rw [List.getElem?_append_right (by simp [leList_length]), show 7 - (83 :: leList 6 n).length = 0 by simp [leList_length]]; rfl
    rw [hf, List.getElem?_map] at h7
    cases hc : p[7]? with
    | none => rw [hc] at h7; cases h7
    | some c =>
      rw [hc] at h7
      have h0 : (0 : UInt8) = c ||| x := Option.some.inj h7
      have : x = 0 := by
        apply UInt8.toBitVec_inj.1; apply BitVec.eq_of_getElem_eq; intro i hi
        have h3 := congrArg (fun y : UInt8 => y.toBitVec[i]) h0
        simp only [UInt8.toBitVec_or, BitVec.getElem_or] at h3
        have h4 : (0 : UInt8).toBitVec[i] = false := by simp
        rw [h4] at h3 ⊢
        cases hb : x.toBitVec[i] with
        | false => rfl
        | true => rw [hb] at h3; simp at h3
      exact hx this
theorem numL_map (p : List UInt8) (x : UInt8) (h : numL p = 0) : numL (p.map (· ||| x)) = 0 := by
  by_cases hx : x = 0
  · subst hx
    rw [show (p.map (· ||| (0 : UInt8))) = p by simp]; exact h
  · exact numL_or p x hx
end Go.Proofs.YtjednaendedpdaaGreat
namespace Go.Proofs.YtjednaendedpdaaGreat
set_option maxRecDepth 100000
set_option linter.unusedVariables false
open Go Go.RowKit

def padL (r : List UInt8) (i j : Nat) : UInt8 := (pageL r i).getD j 255
/-- A record's page stands at P. -/
def PgAt (b : List UInt8) (P : Nat) (r : List UInt8) (i : Nat) : Prop := ∀ j, j < 64 → b[P + j]? = some (padL r i j)
/-- No record's head stands at P. -/
def NoHdr (b : List UInt8) (P : Nat) : Prop := ∃ u v, b[P]? = some u ∧ b[P + 3]? = some v ∧ (u ≠ 1 ∨ v ≠ 0)
theorem pageL_len (r : List UInt8) (i : Nat) : 1 ≤ (pageL r i).length ∧ (pageL r i).length ≤ 64 := by
  unfold pageL; split
  · simp [leList_length]; omega
  · simp; omega
theorem pageL_b0 (r : List UInt8) (i : Nat) (hi : i ≠ 0) : (pageL r i)[0]? = some 2 := by unfold pageL; rw [if_neg hi]; rfl
theorem pageL_h (r : List UInt8) : (pageL r 0)[0]? = some 1 ∧ (pageL r 0)[3]? = some 255 := by
  unfold pageL; rw [if_pos rfl]
  refine ⟨rfl, ?_⟩
  rw [List.getElem?_cons_succ, List.getElem?_append_right (by rw [leList_length]; omega), leList_length]; rfl
theorem PgAt.no {b : List UInt8} {P : Nat} {r : List UInt8} {i : Nat} (h : PgAt b P r i) : NoHdr b P := by
  refine ⟨_, _, h 0 (by omega), h 3 (by omega), ?_⟩
  by_cases hi : i = 0
  · subst hi; right; unfold padL; rw [List.getD_eq_getElem?_getD, (pageL_h r).2]; decide
  · left; unfold padL; rw [List.getD_eq_getElem?_getD, pageL_b0 r i hi]; decide
theorem Er.no {b : List UInt8} {P n : Nat} (h : Er b P n) (hn : 64 ≤ n) : NoHdr b P := ⟨255, 255, h P (by omega) (by omega), h (P + 3) (by omega) (by omega), .inl (by decide)⟩
theorem NoHdr.congr {b b' : List UInt8} {P : Nat} (h : NoHdr b P) (h0 : b'[P]? = b[P]?) (h3 : b'[P + 3]? = b[P + 3]?) : NoHdr b' P := by
  obtain ⟨u, v, a, c, d⟩ := h
  exact ⟨u, v, h0.trans a, h3.trans c, d⟩
/-- What writing pages leaves. -/
structure PgsOut (F B : Nat) (A : Nat) (r : List UInt8) (m i : Nat) (s : FS) (l : LS) (R : FS × LS × Int) : Prop where
  ok : R.1.Ok
  n : R.1.n = s.n
  len : R.1.b.length = s.b.length
  out : ∀ k, (k < A + 64 * i ∨ A + 64 * (i + m) ≤ k) → R.1.b[k]? = s.b[k]?
  res : (R.2.2 = 0 ∧ R.1.dead = false ∧ R.2.1 = l ∧ ∀ j, j < m → PgAt R.1.b (A + 64 * (i + j)) r (i + j)) ∨ (R.2.2 = 2 ∧ R.1.dead = true ∧ R.2.1 = l.told 2 ∧ ∀ j, j < m → NoHdr R.1.b (A + 64 * (i + j)))
  still : s.Still → R.2.2 = 0 ∧ R.1.Still
theorem told0 (l : LS) : l.told 0 = l := by unfold LS.told; simp
theorem goes_still {s : FS} (h : s.Still) : s.goes = false := (FS.Still.step h).2
theorem wr_still {s : FS} (h : s.Still) (A : Nat) (l : List UInt8) : (s.wr A l).Still := ⟨(FS.Still.step h).1.armed, (FS.Still.step h).1.dead⟩
theorem lpages_out (F B : Nat) (at_ : Nat) (r : List UInt8) (h64 : at_ % 64 = 0) : ∀ (m i : Nat) (s : FS) (l : LS), s.dead = false → s.Ok → In s.n.length F B → at_ + 64 * (i + m) ≤ 512 * B → Er s.b (512 * F + at_ + 64 * i) (64 * m) →
    PgsOut F B (512 * F + at_) r m i s l (FS.lpages F B at_ r m i s l)
  | 0, i, s, l, hd, hok, hin, hb, he => ⟨hok, rfl, rfl, fun _ _ => rfl, .inl ⟨rfl, hd, rfl, fun j hj => by omega⟩, fun h => ⟨rfl, h⟩⟩
  | m + 1, i, s, l, hd, hok, hin, hb, he => by
    have hpl := pageL_len r i
    have hw := lw_one (s := s) (F := F) (B := B) (at_ := at_ + 64 * i) (l := pageL r i) hd hok hin (by intro h; rw [h] at hpl; simp at hpl) (by omega) (by omega)
    have e1 : FS.lpages F B at_ r (m + 1) i s l = if (s.lwrite F B l (at_ + 64 * i) (pageL r i)).2.2 ≠ 0 then s.lwrite F B l (at_ + 64 * i) (pageL r i) else FS.lpages F B at_ r m (i + 1) (s.lwrite F B l (at_ + 64 * i) (pageL r i)).1 (s.lwrite F B l (at_ + 64 * i) (pageL r i)).2.1 := rfl
    rw [e1]
    unfold FS.lwrite
    rw [hw]
    dsimp only
    obtain ⟨ok1, n1, l1⟩ := wr_ok hok (512 * F + (at_ + 64 * i)) (pageL r i)
    have hPA : 512 * F + (at_ + 64 * i) = 512 * F + at_ + 64 * i := by omega
    have hcell : ∀ j c, (pageL r i)[j]? = some c → (s.wr (512 * F + (at_ + 64 * i)) (pageL r i)).b[512 * F + at_ + 64 * i + j]? = some (s.wb j c) := fun j c hc => by
      have hj := (List.getElem?_eq_some_iff.1 hc).1
      have := wr_in s (512 * F + (at_ + 64 * i)) (pageL r i) j c hc (he _ (by omega) (by omega))
      rw [hPA] at this ⊢; exact this
    have hout : ∀ k, (k < 512 * F + at_ + 64 * i ∨ 512 * F + at_ + 64 * i + (pageL r i).length ≤ k) → (s.wr (512 * F + (at_ + 64 * i)) (pageL r i)).b[k]? = s.b[k]? := fun k hk => wr_out s _ _ k (by omega)
    cases hg : s.goes with
    | true =>
      rw [toldI_t, if_pos (by decide)]
      refine ⟨ok1, n1, l1, fun k hk => hout k (by omega), .inr ⟨rfl, ?_, rfl, fun j hj => ?_⟩, fun h => ?_⟩
      · show (s.wr _ _).dead = true
        rw [wr_dead hd]; exact hg
      · show NoHdr (s.wr _ _).b _
        rcases Nat.eq_zero_or_pos j with rfl | hj0
        · rw [Nat.add_zero]
          by_cases hi : i = 0
          · subst hi
            refine ⟨_, _, hcell 0 1 (pageL_h r).1, hcell 3 255 (pageL_h r).2, .inr ?_⟩
            rw [lwb_255]; decide
          · have h0 := hcell 0 2 (pageL_b0 r i hi)
            have h3 : ∃ v, (s.wr (512 * F + (at_ + 64 * i)) (pageL r i)).b[512 * F + at_ + 64 * i + 3]? = some v := by
              rw [← Option.isSome_iff_exists, List.getElem?_eq_getElem (by
                have := (List.getElem?_eq_some_iff.1 (he (512 * F + at_ + 64 * i + 3) (by omega) (by omega))).1
                rw [l1]; exact this)]; rfl
            obtain ⟨v, hv⟩ := h3
            exact ⟨_, v, h0, hv, .inl (lwb_2 s 0)⟩
        · have hz : ∀ d, d < 4 → (s.wr (512 * F + (at_ + 64 * i)) (pageL r i)).b[512 * F + at_ + 64 * (i + j) + d]? = some 255 := fun d hd4 => by
            rw [hout _ (by omega)]; exact he _ (by omega) (by omega)
          exact ⟨255, 255, by simpa using hz 0 (by omega), hz 3 (by omega), .inl (by decide)⟩
      · rw [goes_still h] at hg; cases hg
    | false =>
      rw [toldI_f, if_neg (by decide), told0]
      have ih := lpages_out F B at_ r h64 m (i + 1) (s.wr (512 * F + (at_ + 64 * i)) (pageL r i)) l (by rw [wr_dead hd]; exact hg) ok1 (by rw [n1]; exact hin) (by omega) (fun k h1 h2 => by rw [hout k (by omega)]; exact he k (by omega) (by omega))
      have hpg : PgAt (FS.lpages F B at_ r m (i + 1) (s.wr (512 * F + (at_ + 64 * i)) (pageL r i)) l).1.b (512 * F + at_ + 64 * i) r i := fun j hj => by
        rw [ih.out _ (by omega)]
        unfold padL; rw [List.getD_eq_getElem?_getD]
        cases hc : (pageL r i)[j]? with
        | some c => rw [hcell j c hc, lwb_go hg]; rfl
        | none =>
          have := List.getElem?_eq_none_iff.1 hc
          rw [hout _ (by omega), he _ (by omega) (by omega)]; rfl
      refine ⟨ih.ok, ih.n.trans n1, ih.len.trans l1, fun k hk => by rw [ih.out k (by omega), hout k (by omega)], ?_, fun h => ih.still (wr_still h _ _)⟩
      rcases ih.res with ⟨a, b, c, d⟩ | ⟨a, b, c, d⟩
      · refine .inl ⟨a, b, c, fun j hj => ?_⟩
        rcases Nat.eq_zero_or_pos j with rfl | hj0
        · exact hpg
        · have := d (j - 1) (by omega)
          rw [show i + 1 + (j - 1) = i + j by omega] at this; exact this
      · refine .inr ⟨a, b, c, fun j hj => ?_⟩
        rcases Nat.eq_zero_or_pos j with rfl | hj0
        · exact hpg.no
        · have := d (j - 1) (by omega)
          rw [show i + 1 + (j - 1) = i + j by omega] at this; exact this
end Go.Proofs.YtjednaendedpdaaGreat
namespace Go.Proofs.YtjednaendedpdaaGreat
set_option maxRecDepth 100000
set_option linter.unusedVariables false
open Go Go.RowKit

theorem blk_at (s : FS) (F x k : Nat) : (s.blk F x)[k]? = if k < 512 then s.b[512 * (F + x) + k]? else none := by
  unfold FS.blk; rw [List.getElem?_take, List.getElem?_drop]
theorem blk_len {s : FS} (hok : s.Ok) {F x : Nat} (h : F + x < s.n.length) : (s.blk F x).length = 512 := by
  have := hok.len
  unfold FS.blk; rw [List.length_take, List.length_drop]; omega
theorem getD_some {l : List UInt8} {k : Nat} {u : UInt8} (h : l[k]? = some u) : l.getD k 0 = u := by rw [List.getD_eq_getElem?_getD, h]; rfl
theorem no_hdr {s : FS} {F x p : Nat} (hp : p < 8) (h : NoHdr s.b (512 * (F + x) + 64 * p)) : hdrL (s.blk F x) p = false := by
  obtain ⟨u, v, h0, h3, hn⟩ := h
  have e0 : (s.blk F x)[64 * p]? = some u := by rw [blk_at, if_pos (by omega)]; exact h0
  have e3 : (s.blk F x)[64 * p + 3]? = some v := by rw [blk_at, if_pos (by omega), ← Nat.add_assoc]; exact h3
  unfold hdrL
  rw [getD_some e0, getD_some e3, Bool.and_eq_false_iff]
  exact hn.imp (fun h => by simpa using h) (fun h => by simpa using h)
def posL (a t : Nat) : Nat := if t < 60 then 64 * a + 4 + t else 64 * (a + 1 + (t - 60) / 63) + 1 + (t - 60) % 63
theorem body_get (S : List UInt8) (a : Nat) : ∀ m t, 1 ≤ m → 64 * (a + m) ≤ S.length → t < 60 + 63 * (m - 1) → (bodyL S a m)[t]? = S[posL a t]?
  | 0, t, h, _, _ => by omega
  | 1, t, _, hl, ht => by
    rw [bodyL, List.getElem?_take, if_pos (by omega), List.getElem?_drop]
    unfold posL; rw [if_pos (by omega)]
  | m + 2, t, _, hl, ht => by
    have hlen : (bodyL S a (m + 1)).length = 60 + 63 * m := by
      have : ∀ m, 64 * (a + (m + 1)) ≤ S.length → (bodyL S a (m + 1)).length = 60 + 63 * m := by
        intro m
        induction m with
        | zero => intro h; rw [bodyL, List.length_take, List.length_drop]; omega
        | succ m ih =>
          intro h
          show (bodyL S a (m + 1) ++ _).length = _
          rw [List.length_append, ih (by omega), List.length_take, List.length_drop]; omega
      exact this m (by omega)
    show (bodyL S a (m + 1) ++ _)[t]? = _
    by_cases h : t < 60 + 63 * m
    · rw [List.getElem?_append_left (by omega), body_get S a (m + 1) t (by omega) (by omega) (by omega)]
    · rw [List.getElem?_append_right (by omega), hlen, List.getElem?_take, if_pos (by omega), List.getElem?_drop]
      unfold posL; rw [if_neg (by omega)]
      have hq : (t - 60) / 63 = m := by omega
      congr 1; rw [hq]; omega
theorem pad_at (r : List UInt8) (t : Nat) (h : t < r.length) : (if t < 60 then padL r 0 (4 + t) else padL r (1 + (t - 60) / 63) (1 + (t - 60) % 63)) = r[t] := by
  split
  · rename_i ht
    unfold padL pageL; rw [if_pos rfl, List.getD_eq_getElem?_getD, show 4 + t = (3 + t) + 1 by omega, List.getElem?_cons_succ, List.getElem?_append_right (by rw [leList_length]; omega), leList_length, show 3 + t - 2 = t + 1 by omega, List.getElem?_cons_succ, List.getElem?_take, if_pos ht, List.getElem?_eq_getElem h]; rfl
  · rename_i ht
    unfold padL pageL; rw [if_neg (by omega), List.getD_eq_getElem?_getD, show 1 + (t - 60) % 63 = (t - 60) % 63 + 1 by omega, List.getElem?_cons_succ, List.getElem?_take, if_pos (by omega), List.getElem?_drop, show 60 + 63 * (1 + (t - 60) / 63 - 1) + (t - 60) % 63 = t by omega, List.getElem?_eq_getElem h]; rfl
theorem rec_of_pages (S : List UInt8) (a m : Nat) (r : List UInt8) (hr : r.length ≤ 400) (hm : m = pgs r.length) (ha : a + m ≤ 8) (hl : S.length = 512)
    (h : ∀ i j, i < m → j < 64 → ¬ (i = 0 ∧ j = 3) → S[64 * (a + i) + j]? = some (padL r i j)) (h3 : S[64 * a + 3]? = some 0) : RecAt S a m r := by
  have hp := pgs_pos hr
  rw [← hm] at hp
  have h0 : S[64 * a]? = some 1 := by
    have := h 0 0 (by omega) (by omega) (by omega)
    rw [Nat.add_zero, Nat.add_zero] at this
    rw [this]; unfold padL; rw [List.getD_eq_getElem?_getD, (pageL_h r).1]; rfl
  have hlen : lenL S a = r.length := by
    unfold lenL
    have e : (S.drop (64 * a + 1)).take 2 = leList 2 r.length := by
      apply List.ext_getElem?; intro k
      rw [List.getElem?_take]
      by_cases hk : k < 2
      · rw [if_pos hk, List.getElem?_drop]
        have := h 0 (1 + k) (by omega) (by omega) (by omega)
        rw [Nat.add_zero, ← Nat.add_assoc] at this
        rw [this]; unfold padL pageL
        rw [if_pos rfl, List.getD_eq_getElem?_getD, show 1 + k = k + 1 by omega, List.getElem?_cons_succ, List.getElem?_append_left (by rw [leList_length]; exact hk), List.getElem?_eq_getElem (by rw [leList_length]; exact hk)]; rfl
      · rw [if_neg hk, List.getElem?_eq_none (by rw [leList_length]; omega)]
    rw [e, leNat_leList]; omega
  refine ⟨?_, by rw [hlen]; exact hm, by omega, ha, fun k hk => ?_, ?_⟩
  · unfold hdrL; rw [getD_some h0, getD_some h3]; rfl
  · unfold goesL
    have := h (1 + k) 0 (by omega) (by omega) (by omega)
    rw [Nat.add_zero, ← Nat.add_assoc] at this
    rw [getD_some this]; unfold padL; rw [List.getD_eq_getElem?_getD, pageL_b0 r (1 + k) (by omega)]; rfl
  · rw [hlen]
    have hn : r.length ≤ 60 + 63 * (m - 1) := by
      rw [hm]; unfold pgs; rw [if_neg (by omega)]; split <;> omega
    apply List.ext_getElem?; intro t
    rw [List.getElem?_take]
    by_cases ht : t < r.length
    · rw [if_pos ht, body_get S a m t (by omega) (by omega) (by omega), List.getElem?_eq_getElem ht, ← pad_at r t ht]
      unfold posL
      split
      · have := h 0 (4 + t) (by omega) (by omega) (by omega)
        rw [Nat.add_zero, ← Nat.add_assoc] at this; exact this.symm
      · have := h (1 + (t - 60) / 63) (1 + (t - 60) % 63) (by omega) (by omega) (by omega)
        rw [← Nat.add_assoc, ← Nat.add_assoc] at this; exact this.symm
    · rw [if_neg ht, List.getElem?_eq_none (by omega)]
theorem cln_at {S : List UInt8} {k : Nat} (h : clnL S k = true) (hl : S.length = 512) (hk : k ≤ 7) : ∀ j, j < 64 → S[64 * (7 - k) + j]? = some 255 := fun j hj => by
  unfold clnL at h
  rw [List.all_eq_true] at h
  have hlt : 64 * (7 - k) + j < S.length := by omega
  rw [List.getElem?_eq_getElem hlt]
  have := h S[64 * (7 - k) + j] (List.mem_iff_getElem?.2 ⟨j, by rw [List.getElem?_take, if_pos hj, List.getElem?_drop, List.getElem?_eq_getElem hlt]⟩)
  rw [beq_iff_eq] at this; rw [this]
theorem not_cln {S : List UInt8} {k : Nat} {u : UInt8} (hu : S[64 * (7 - k)]? = some u) (h : u ≠ 255) : clnL S k = false := by
  unfold clnL
  rw [Bool.eq_false_iff]
  intro ha
  rw [List.all_eq_true] at ha
  have := ha u (List.mem_iff_getElem?.2 ⟨0, by rw [List.getElem?_take, if_pos (by omega), List.getElem?_drop, Nat.add_zero]; exact hu⟩)
  rw [beq_iff_eq] at this; exact h this
theorem cln_of {S : List UInt8} {k : Nat} (h : ∀ j, j < 64 → S[64 * (7 - k) + j]? = some 255) : clnL S k = true := by
  unfold clnL
  rw [List.all_eq_true]
  intro u hu
  obtain ⟨j, hj⟩ := List.mem_iff_getElem?.1 hu
  rw [List.getElem?_take] at hj
  split at hj
  · rename_i h64
    rw [List.getElem?_drop, h j h64] at hj; cases hj; rfl
  · cases hj
/-- What Append's record leaves. -/
structure PutOut (F : Nat) (x : Nat) (r : List UInt8) (rm : Nat) (s : FS) (l : LS) (R : FS × LS × Int) : Prop where
  ok : R.1.Ok
  n : R.1.n = s.n
  len : R.1.b.length = s.b.length
  out : ∀ k, (k < 512 * (F + x) + 64 ∨ 512 * (F + x) + 512 ≤ k) → R.1.b[k]? = s.b[k]?
  gd : Good (R.1.blk F x)
  res : (R.2.2 = 0 ∧ R.1.dead = false ∧ R.2.1 = l ∧ recN (R.1.blk F x) 7 1 = recN (s.blk F x) 7 1 ++ [r] ∧ runB (clnL (R.1.blk F x)) 7 = rm - pgs r.length) ∨
    (R.2.2 = 2 ∧ R.1.dead = true ∧ R.2.1 = l.told 2 ∧ (recN (R.1.blk F x) 7 1 = recN (s.blk F x) 7 1 ∨ recN (R.1.blk F x) 7 1 = recN (s.blk F x) 7 1 ++ [r]))
  still : s.Still → R.2.2 = 0 ∧ R.1.Still
theorem lput_out {s : FS} {l : LS} {F B : Nat} {r : List UInt8} (hd : s.dead = false) (hok : s.Ok) (hin : In s.n.length F B) (hx : l.newest.1 < B) (hr : r.length ≤ 400) (hrm : pgs r.length ≤ s.lroom F l) (hg : Good (s.blk F l.newest.1)) :
    PutOut F l.newest.1 r (s.lroom F l) s l (s.lput F B l r) := by
  obtain ⟨x, hxe⟩ : ∃ x, x = l.newest.1 := ⟨_, rfl⟩
  obtain ⟨rm, hrme⟩ : ∃ rm, rm = s.lroom F l := ⟨_, rfl⟩
  obtain ⟨m, hm⟩ : ∃ m, m = pgs r.length := ⟨_, rfl⟩
  have hput : s.lput F B l r = (let a := FS.lpages F B (512 * x + 64 * (8 - rm)) r m 0 s l; if a.2.2 ≠ 0 then a else a.1.lwrite F B a.2.1 (512 * x + 64 * (8 - rm) + 3) [0]) := by
    unfold FS.lput; rw [← hxe, ← hrme, ← hm]
  have hrun : runB (clnL (s.blk F x)) 7 = rm := by
    rw [hrme]; unfold FS.lroom; rw [hd, if_neg (by decide), ← hxe]
  rw [← hxe] at hx hg ⊢
  rw [← hrme, ← hm] at hrm
  rw [← hrme]
  have hp := pgs_pos hr
  rw [← hm] at hp
  have hhi := hin.hi
  have hFx : F + x < s.n.length := by omega
  have hSl := blk_len hok (F := F) (x := x) hFx
  have hrm7 : rm ≤ 7 := by rw [← hrun]; exact runB_le _ _
  have hcl : ∀ k, k < rm → clnL (s.blk F x) k = true := fun k hk => runB_true 7 _ k (by rw [hrun]; exact hk)
  obtain ⟨a, ha⟩ : ∃ a, a = 8 - rm := ⟨_, rfl⟩
  rw [← ha] at hput
  have hA : 512 * F + (512 * x + 64 * a) = 512 * (F + x) + 64 * a := by omega
  have hclp : ∀ p j, a ≤ p → p < 8 → j < 64 → s.b[512 * (F + x) + 64 * p + j]? = some 255 := fun p j h1 h2 h3 => by
    have := cln_at (hcl (7 - p) (by omega)) hSl (by omega) j h3
    rw [show 7 - (7 - p) = p by omega, blk_at, if_pos (by omega), ← Nat.add_assoc] at this
    exact this
  have hEr : Er s.b (512 * F + (512 * x + 64 * a) + 64 * 0) (64 * m) := fun k h1 h2 => by
    have := hclp ((k - 512 * (F + x)) / 64) ((k - 512 * (F + x)) % 64) (by omega) (by omega) (by omega)
    rwa [show 512 * (F + x) + 64 * ((k - 512 * (F + x)) / 64) + (k - 512 * (F + x)) % 64 = k by omega] at this
  have hCln : Cln (s.blk F x) a := fun p h1 h2 => getD_some (by rw [blk_at, if_pos (by omega)]; exact hclp p 0 h1 h2 (by omega))
  have PO := lpages_out F B (512 * x + 64 * a) r (by omega) m 0 s l hd hok hin (by omega) hEr
  rw [hput]
  dsimp only
  generalize FS.lpages F B (512 * x + 64 * a) r m 0 s l = P at PO ⊢
  obtain ⟨s1, l1, e1⟩ := P
  obtain ⟨ok1, n1, len1, out1, res1, st1⟩ := PO
  dsimp only at ok1 n1 len1 out1 res1 st1 ⊢
  have hout1 : ∀ k, (k < 512 * (F + x) + 64 * a ∨ 512 * (F + x) + 64 * (a + m) ≤ k) → s1.b[k]? = s.b[k]? := fun k hk => out1 k (by omega)
  have hagr1 : Agr (s.blk F x) (s1.blk F x) (64 * a) := fun k hk => by
    rw [blk_at, blk_at]; split
    · exact hout1 _ (by omega)
    · rfl
  rcases res1 with ⟨rfl, hd1, rfl, hpg⟩ | ⟨rfl, hd1, rfl, hno⟩
  · rw [if_neg (by decide)]
    have hA3 : 512 * F + (512 * x + 64 * a + 3) = 512 * (F + x) + 64 * a + 3 := by omega
    have hw := lw_one (s := s1) (F := F) (B := B) (at_ := 512 * x + 64 * a + 3) (l := [0]) hd1 ok1 (by rw [n1]; exact hin) (by simp) (by simp; omega) (by simp; omega)
    unfold FS.lwrite
    rw [hw]
    dsimp only
    obtain ⟨ok2, n2, len2⟩ := wr_ok ok1 (512 * F + (512 * x + 64 * a + 3)) [0]
    have hout2 : ∀ k, k ≠ 512 * (F + x) + 64 * a + 3 → (s1.wr (512 * F + (512 * x + 64 * a + 3)) [0]).b[k]? = s1.b[k]? := fun k hk => wr_out s1 _ _ k (by simp; omega)
    have h255 : s1.b[512 * (F + x) + 64 * a + 3]? = some 255 := by
      have := hpg 0 (by omega) 3 (by omega)
      rw [show 512 * F + (512 * x + 64 * a) + 64 * (0 + 0) + 3 = 512 * (F + x) + 64 * a + 3 by omega] at this
      rw [this]; unfold padL; rw [List.getD_eq_getElem?_getD, (pageL_h r).2]; rfl
    have hz : (s1.wr (512 * F + (512 * x + 64 * a + 3)) [0]).b[512 * (F + x) + 64 * a + 3]? = some (s1.wb 0 0) := by
      have := wr_in s1 (512 * F + (512 * x + 64 * a + 3)) [0] 0 0 rfl (by rw [Nat.add_zero, hA3]; exact h255)
      rw [← hA3]; exact this
    have hd2 : (s1.wr (512 * F + (512 * x + 64 * a + 3)) [0]).dead = s1.goes := wr_dead hd1 _ _
    have hst2 : s.Still → toldI s1.goes = 0 ∧ (s1.wr (512 * F + (512 * x + 64 * a + 3)) [0]).Still := fun h => by
      have h1 := (st1 h).2
      rw [goes_still h1, toldI_f]; exact ⟨rfl, wr_still h1 _ _⟩
    have hpage : ∀ i j, i < m → j < 64 → ¬ (i = 0 ∧ j = 3) → (s1.wr (512 * F + (512 * x + 64 * a + 3)) [0]).b[512 * (F + x) + (64 * (a + i) + j)]? = some (padL r i j) := fun i j hi hj hn => by
      rw [hout2 _ (by omega)]
      have := hpg i hi j hj
      rw [Nat.zero_add, show 512 * F + (512 * x + 64 * a) + 64 * i + j = 512 * (F + x) + (64 * (a + i) + j) by omega] at this
      exact this
    generalize s1.wr (512 * F + (512 * x + 64 * a + 3)) [0] = s2 at ok2 n2 len2 hout2 hz hd2 hst2 hpage ⊢
    have hS2l : (s2.blk F x).length = 512 := blk_len ok2 (by rw [n2, n1]; exact hFx)
    have hagr2 : Agr (s.blk F x) (s2.blk F x) (64 * a) := fun k hk => by
      rw [blk_at, blk_at]; split
      · rw [hout2 _ (by omega)]; exact hout1 _ (by omega)
      · rfl
    have hrest : ∀ p, a + m ≤ p → p < 8 → ∀ j, j < 64 → s2.b[512 * (F + x) + 64 * p + j]? = some 255 := fun p h1 h2 j hj => by
      rw [hout2 _ (by omega), hout1 _ (by omega)]; exact hclp p j (by omega) h2 hj
    have hresth : ∀ p, a + m ≤ p → p < 8 → hdrL (s2.blk F x) p = false := fun p h1 h2 => no_hdr h2 ⟨255, 255, by simpa using hrest p h1 h2 0 (by omega), hrest p h1 h2 3 (by omega), .inl (by decide)⟩
    have hout : ∀ k, (k < 512 * (F + x) + 64 ∨ 512 * (F + x) + 512 ≤ k) → s2.b[k]? = s.b[k]? := fun k hk => by
      rw [hout2 k (by omega), hout1 k (by omega)]
    have hmid : ∀ p, a < p → p < a + m → hdrL (s2.blk F x) p = false := fun p h1 h2 => by
      have h0 := hpage (p - a) 0 (by omega) (by omega) (by omega)
      have h3 := hpage (p - a) 3 (by omega) (by omega) (by omega)
      refine no_hdr (by omega) ⟨padL r (p - a) 0, padL r (p - a) 3, ?_, ?_, .inl ?_⟩
      · rw [← h0]; congr 1; omega
      · rw [← h3]; congr 1; omega
      · unfold padL; rw [List.getD_eq_getElem?_getD, pageL_b0 r (p - a) (by omega)]; decide
    by_cases hw0 : s1.wb 0 0 = 0
    · have hRA : RecAt (s2.blk F x) a m r := rec_of_pages _ a m r hr hm (by omega) hS2l (fun i j hi hj hn => by rw [blk_at, if_pos (by omega)]; exact hpage i j hi hj hn) (by rw [blk_at, if_pos (by omega), ← Nat.add_assoc, hz, hw0])
      obtain ⟨g2, c2⟩ := new_rec hg hCln (by omega) (by omega) hagr2 hRA hresth
      cases hgo : s1.goes with
      | false =>
        rw [toldI_f, told0]
        refine ⟨ok2, n2.trans n1, len2.trans len1, hout, g2, .inl ⟨rfl, hd2.trans hgo, rfl, c2, ?_⟩, fun h => ⟨rfl, (hst2 h).2⟩⟩
        rw [← hm]
        refine runB_spec 7 _ (rm - m) (by omega) (fun k hk => cln_of fun j hj => ?_) (.inr ?_)
        · rw [blk_at, if_pos (by omega), ← Nat.add_assoc]; exact hrest (7 - k) (by omega) (by omega) j hj
        · have h0 := hpage (m - 1) 0 (by omega) (by omega) (by omega)
          refine not_cln (u := padL r (m - 1) 0) (by rw [blk_at, if_pos (by omega), ← h0]; congr 1; omega) ?_
          unfold padL; rw [List.getD_eq_getElem?_getD]
          by_cases hm1 : m - 1 = 0
          · rw [hm1, (pageL_h r).1]; decide
          · rw [pageL_b0 r (m - 1) hm1]; decide
      | true =>
        rw [toldI_t]
        refine ⟨ok2, n2.trans n1, len2.trans len1, hout, g2, .inr ⟨rfl, hd2.trans hgo, rfl, .inr c2⟩, fun h => ?_⟩
        have := (hst2 h).1; rw [hgo, toldI_t] at this; cases this
    · have hgo : s1.goes = true := by
        cases hgo : s1.goes with
        | true => rfl
        | false => exact absurd (lwb_go hgo 0 0) hw0
      rw [hgo, toldI_t]
      have hah : hdrL (s2.blk F x) a = false := by
        have h0 := hpage 0 0 (by omega) (by omega) (by omega)
        exact no_hdr (by omega) ⟨padL r 0 0, s1.wb 0 0, by rw [← h0]; congr 1, hz, .inr hw0⟩
      obtain ⟨g2, c2⟩ := torn_recs hg hCln (by omega) (by omega) hagr2 (fun p h1 h2 => by
        rcases Nat.lt_or_ge p (a + m) with h | h
        · rcases Nat.eq_or_lt_of_le h1 with rfl | h'
          · exact hah
          · exact hmid p h' h
        · exact hresth p h h2)
      refine ⟨ok2, n2.trans n1, len2.trans len1, hout, g2, .inr ⟨rfl, hd2.trans hgo, rfl, .inl c2⟩, fun h => ?_⟩
      have := (hst2 h).1; rw [hgo, toldI_t] at this; cases this
  · rw [if_pos (by decide)]
    have hno1 : ∀ p, a ≤ p → p < 8 → hdrL (s1.blk F x) p = false := fun p h1 h2 => by
      rcases Nat.lt_or_ge p (a + m) with h | h
      · have := hno (p - a) (by omega)
        rw [Nat.zero_add, show 512 * F + (512 * x + 64 * a) + 64 * (p - a) = 512 * (F + x) + 64 * p by omega] at this
        exact no_hdr h2 this
      · have hz : ∀ j, j < 64 → s1.b[512 * (F + x) + 64 * p + j]? = some 255 := fun j hj => by rw [hout1 _ (by omega)]; exact hclp p j h1 h2 hj
        exact no_hdr h2 ⟨255, 255, by simpa using hz 0 (by omega), hz 3 (by omega), .inl (by decide)⟩
    obtain ⟨g2, c2⟩ := torn_recs hg hCln (by omega) (by omega) hagr1 hno1
    exact ⟨ok1, n1, len1, fun k hk => hout1 k (by omega), g2, .inr ⟨rfl, hd1, rfl, .inl c2⟩, fun h => absurd (st1 h).1 (by decide)⟩
end Go.Proofs.YtjednaendedpdaaGreat
namespace Go.Proofs.YtjednaendedpdaaGreat
set_option maxRecDepth 100000
set_option linter.unusedVariables false
open Go Go.RowKit

theorem pg_at (s : FS) (F b p k : Nat) : (s.pg F b p)[k]? = if k < 64 then s.b[512 * (F + b) + 64 * p + k]? else none := by
  unfold FS.pg; rw [List.getElem?_take, List.getElem?_drop]
theorem firstL_7 (n : Nat) : (firstL n)[7]? = some 0 := by
  unfold firstL begL
  rw [List.getElem?_append_right (by simp [leList_length]), show 7 - (83 :: leList 6 n).length = 0 by simp [leList_length]]; rfl
theorem numL_no {p : List UInt8} (h : p[7]? ≠ some 0) : numL p = 0 := by
  unfold numL
  dsimp only
  split
  · rfl
  · rename_i h1
    have h2 : firstL _ = p := Classical.byContradiction fun h' => h1 (.inr h')
    exact absurd (by rw [← h2]; exact firstL_7 _) h
theorem leNat_first (num : Nat) (h : num < 281474976710656) : leNat (((firstL num).drop 1).take 6) = num := by
  have e : ((firstL num).drop 1).take 6 = leList 6 num := by
    unfold firstL begL
    show (leList 6 num ++ _).take 6 = _
    rw [List.take_append_of_le_length (by rw [leList_length]; omega), List.take_of_length_le (by rw [leList_length]; omega)]
  rw [e, leNat_leList, show (256 : Nat) ^ 6 = 281474976710656 from rfl]; omega
theorem numL_first (num : Nat) (h1 : 1 ≤ num) (h : num < 281474976710656) : numL (firstL num) = num := by
  unfold numL
  dsimp only
  rw [leNat_first num h, if_neg (by simp; omega)]
theorem begL_len (num : Nat) : (begL num).length = 7 := by simp [begL, leList_length]
theorem firstL_at (num k : Nat) (h : k < 64) : (firstL num)[k]? = if k < 7 then (begL num)[k]? else if k = 7 then some 0 else some 255 := by
  unfold firstL
  by_cases h7 : k < 7
  · rw [if_pos h7, List.getElem?_append_left (by rw [begL_len]; exact h7)]
  · rw [if_neg h7, List.getElem?_append_right (by rw [begL_len]; omega), begL_len]
    by_cases hk : k = 7
    · subst hk; rfl
    · rw [if_neg hk, show k - 7 = (k - 8) + 1 by omega, List.getElem?_cons_succ, List.getElem?_replicate, if_pos (by omega)]
/-- A block is a segment without records. -/
structure Fresh (s : FS) (F b num : Nat) : Prop where
  pg : s.pg F b 0 = firstL num
  rest : ∀ k, 64 ≤ k → k < 512 → s.b[512 * (F + b) + k]? = some 255
theorem Fresh.recs {s : FS} {F b num : Nat} (h : Fresh s F b num) : Good (s.blk F b) ∧ recN (s.blk F b) 7 1 = [] ∧ runB (clnL (s.blk F b)) 7 = 7 := by
  have hh : ∀ p, 1 ≤ p → p < 8 → hdrL (s.blk F b) p = false := fun p h1 h2 => no_hdr h2 ⟨255, 255, h.rest _ (by omega) (by omega), by rw [Nat.add_assoc]; exact h.rest _ (by omega) (by omega), .inl (by decide)⟩
  refine ⟨fun p h1 h2 h3 => absurd h3 (by rw [hh p h1 h2]; decide), recN_none _ _ _ (fun i hi => hh _ (by omega) (by omega)), runB_spec 7 _ 7 (Nat.le_refl _) (fun k hk => cln_of fun j hj => ?_) (.inl rfl)⟩
  rw [blk_at, if_pos (by omega)]; exact h.rest _ (by omega) (by omega)
structure MkOut (F b num : Nat) (s : FS) (l : LS) (R : FS × LS × Int) : Prop where
  ok : R.1.Ok
  n : R.1.n.length = s.n.length
  len : R.1.b.length = s.b.length
  out : ∀ k, (k < 512 * (F + b) ∨ 512 * (F + b) + 512 ≤ k) → R.1.b[k]? = s.b[k]?
  res : (R.2.2 = 0 ∧ R.1.dead = false ∧ R.2.1 = { l with segs := l.segs ++ [(b, num)] } ∧ Fresh R.1 F b num) ∨
    (R.2.2 = 2 ∧ R.1.dead = true ∧ R.2.1 = l.told 2 ∧ (numL (R.1.pg F b 0) = 0 ∨ Fresh R.1 F b num))
  still : s.Still → R.2.2 = 0 ∧ R.1.Still
structure ClOut (F b : Nat) (s : FS) (l : LS) (R : FS × LS × Int) : Prop where
  ok : R.1.Ok
  n : R.1.n.length = s.n.length
  len : R.1.b.length = s.b.length
  out : ∀ k, (k < 512 * (F + b) ∨ 512 * (F + b) + 512 ≤ k) → R.1.b[k]? = s.b[k]?
  res : (R.2.2 = 0 ∧ R.1.dead = false ∧ R.2.1 = l ∧ Er R.1.b (512 * (F + b)) 512) ∨ (R.2.2 = 2 ∧ R.1.dead = true ∧ R.2.1 = l.told 2 ∧ numL (R.1.pg F b 0) = 0)
  still : s.Still → R.2.2 = 0 ∧ R.1.Still
theorem er_page (s : FS) (F b : Nat) : (s.er (F + b)).pg F b 0 = (s.pg F b 0).map (· ||| s.ex 0) := by
  apply List.ext_getElem?; intro k
  rw [List.getElem?_map, pg_at, pg_at]
  split
  · rename_i hk
    rw [er_at]
    congr 1; funext old
    rw [if_pos (by omega), show (512 * (F + b) + 64 * 0 + k - 512 * (F + b)) / 64 = 0 by omega]
  · rfl
theorem er_out (s : FS) (K k : Nat) (h : k < 512 * K ∨ 512 * K + 512 ≤ k) : (s.er K).b[k]? = s.b[k]? := by
  rw [er_at]
  cases s.b[k]? with
  | none => rfl
  | some u => rw [Option.map_some, if_neg (by omega)]
theorem er_full {s : FS} (hg : s.goes = false) {K : Nat} (hl : 512 * K + 512 ≤ s.b.length) : Er (s.er K).b (512 * K) 512 := fun k h1 h2 => by
  rw [er_at, List.getElem?_eq_getElem (by omega), Option.map_some, if_pos (by omega), ex_go hg, or255]
theorem er_still {s : FS} (h : s.Still) (K : Nat) : (s.er K).Still := ⟨(FS.Still.step h).1.armed, (FS.Still.step h).1.dead⟩
theorem lclean_out {s : FS} {l : LS} {F B b : Nat} (hd : s.dead = false) (hok : s.Ok) (hin : In s.n.length F B) (hb : b < B) (hn : numL (s.pg F b 0) = 0) : ClOut F b s l (s.lclean F B l b) := by
  have hhi := hin.hi
  have hlen := hok.len
  have hpv : pcleanV s F B ((512 * b : Nat) : Int) 512 = (((ffs ⟨(s.blk F b).toArray⟩ : Nat) : Int) == ((s.blk F b).length : Nat), 0) := by
    have hin2 : inB (B : Int) ((512 * b : Nat) : Int) 512 = true := by rw [inB_iff]; omega
    unfold pcleanV preadV
    rw [if_pos hin2, hd]
    simp only [Bool.false_eq_true, if_false, if_true]
    rw [show (512 * (F : Int) + ((512 * b : Nat) : Int)).toNat = 512 * (F + b) by omega]
    unfold FS.blk; rfl
  unfold FS.lclean FS.wclean
  rw [hpv]
  dsimp only
  rw [if_neg (by decide)]
  have hbl := blk_len hok (F := F) (x := b) (by omega)
  by_cases hc : (((ffs ⟨(s.blk F b).toArray⟩ : Nat) : Int) == ((s.blk F b).length : Nat)) = true
  · rw [if_pos hc]
    refine ⟨hok, rfl, rfl, fun _ _ => rfl, .inl ⟨rfl, hd, told0 _, fun k h1 h2 => ?_⟩, fun h => ⟨rfl, h⟩⟩
    have := ffs_lt (s.blk F b) (beq_iff_eq.1 hc) (k - 512 * (F + b)) (by omega)
    rw [blk_at, if_pos (by omega), show 512 * (F + b) + (k - 512 * (F + b)) = k by omega] at this
    exact this
  · rw [if_neg hc, perase_one hd hin hb]
    dsimp only
    obtain ⟨ok1, n1, len1⟩ := er_ok hok (F + b)
    cases hg : s.goes with
    | true =>
      rw [toldI_t]
      refine ⟨ok1, n1, len1, er_out s _, .inr ⟨rfl, (er_dead hd _).trans hg, rfl, ?_⟩, fun h => ?_⟩
      · rw [er_page]; exact numL_map _ _ hn
      · rw [goes_still h] at hg; cases hg
    | false =>
      rw [toldI_f]
      exact ⟨ok1, n1, len1, er_out s _, .inl ⟨rfl, (er_dead hd _).trans hg, told0 _, er_full hg (by omega)⟩, fun h => ⟨rfl, er_still h _⟩⟩
theorem lmakes_out {s : FS} {l : LS} {F B b num : Nat} (hd : s.dead = false) (hok : s.Ok) (hin : In s.n.length F B) (hb : b < B) (hn : numL (s.pg F b 0) = 0) : MkOut F b num s l (s.lmakes F B l b num) := by
  have CO := lclean_out (l := l) hd hok hin hb hn
  unfold FS.lmakes
  generalize s.lclean F B l b = c at CO ⊢
  obtain ⟨s1, l1, e1⟩ := c
  obtain ⟨ok1, n1, len1, out1, res1, st1⟩ := CO
  dsimp only at ok1 n1 len1 out1 res1 st1 ⊢
  rcases res1 with ⟨rfl, hd1, rfl, he1⟩ | ⟨rfl, hd1, rfl, hn1⟩
  · rw [if_neg (by decide)]
    have hin1 : In s1.n.length F B := by rw [n1]; exact hin
    have hw := lw_one (s := s1) (F := F) (B := B) (at_ := 512 * b) (l := begL num) hd1 ok1 hin1 (by simp [begL]) (by rw [begL_len]; omega) (by rw [begL_len]; omega)
    unfold FS.lwrite
    rw [hw]
    dsimp only
    have hA : 512 * F + 512 * b = 512 * (F + b) := by omega
    rw [hA]
    obtain ⟨ok2, n2, len2⟩ := wr_ok ok1 (512 * (F + b)) (begL num)
    have hout2 : ∀ k, (k < 512 * (F + b) ∨ 512 * (F + b) + 7 ≤ k) → (s1.wr (512 * (F + b)) (begL num)).b[k]? = s1.b[k]? := fun k hk => wr_out s1 _ _ k (by rw [begL_len]; omega)
    have hcell : ∀ j c, (begL num)[j]? = some c → (s1.wr (512 * (F + b)) (begL num)).b[512 * (F + b) + j]? = some (s1.wb j c) := fun j c hc => by
      have hj := (List.getElem?_eq_some_iff.1 hc).1
      rw [begL_len] at hj
      exact wr_in s1 _ _ j c hc (he1 _ (by omega) (by omega))
    have hd2 : (s1.wr (512 * (F + b)) (begL num)).dead = s1.goes := wr_dead hd1 _ _
    have hst2 : s1.Still → (s1.wr (512 * (F + b)) (begL num)).Still := fun h => wr_still h _ _
    generalize s1.wr (512 * (F + b)) (begL num) = s2 at ok2 n2 len2 hout2 hcell hd2 hst2 ⊢
    cases hg : s1.goes with
    | true =>
      rw [toldI_t, if_pos (by decide)]
      refine ⟨ok2, by rw [n2, n1], len2.trans len1, fun k hk => by rw [hout2 k (by omega), out1 k hk], .inr ⟨rfl, hd2.trans hg, rfl, .inl (numL_no ?_)⟩, fun h => ?_⟩
      · rw [pg_at, if_pos (by omega), hout2 _ (by omega), he1 _ (by omega) (by omega)]; simp
      · rw [goes_still (st1 h).2] at hg; cases hg
    | false =>
      rw [toldI_f, if_neg (by decide), told0]
      have hd2' : s2.dead = false := hd2.trans hg
      have hw2 := lw_one (s := s2) (F := F) (B := B) (at_ := 512 * b + 7) (l := [0]) hd2' ok2 (by rw [n2]; exact hin1) (by simp) (by simp; omega) (by simp; omega)
      rw [hw2]
      dsimp only
      have hA7 : 512 * F + (512 * b + 7) = 512 * (F + b) + 7 := by omega
      rw [hA7]
      obtain ⟨ok3, n3, len3⟩ := wr_ok ok2 (512 * (F + b) + 7) [0]
      have hout3 : ∀ k, k ≠ 512 * (F + b) + 7 → (s2.wr (512 * (F + b) + 7) [0]).b[k]? = s2.b[k]? := fun k hk => wr_out s2 _ _ k (by simp; omega)
      have hz : (s2.wr (512 * (F + b) + 7) [0]).b[512 * (F + b) + 7]? = some (s2.wb 0 0) := by
        have := wr_in s2 (512 * (F + b) + 7) [0] 0 0 rfl (by rw [Nat.add_zero, hout2 _ (by omega)]; exact he1 _ (by omega) (by omega))
        exact this
      have hd3 : (s2.wr (512 * (F + b) + 7) [0]).dead = s2.goes := wr_dead hd2' _ _
      have hst3 : s2.Still → (s2.wr (512 * (F + b) + 7) [0]).Still := fun h => wr_still h _ _
      generalize s2.wr (512 * (F + b) + 7) [0] = s3 at ok3 n3 len3 hout3 hz hd3 hst3 ⊢
      have hout : ∀ k, (k < 512 * (F + b) ∨ 512 * (F + b) + 512 ≤ k) → s3.b[k]? = s.b[k]? := fun k hk => by rw [hout3 k (by omega), hout2 k (by omega), out1 k hk]
      have hfresh : s2.wb 0 0 = 0 → Fresh s3 F b num := fun h0 => by
        refine ⟨?_, fun k h1 h2 => by rw [hout3 _ (by omega), hout2 _ (by omega)]; exact he1 _ (by omega) (by omega)⟩
        apply List.ext_getElem?; intro k
        rw [pg_at]
        split
        · rename_i hk
          rw [firstL_at num k hk, Nat.mul_zero, Nat.add_zero]
          split
          · rename_i h7
            rw [hout3 _ (by omega)]
            have hlt : k < (begL num).length := by rw [begL_len]; exact h7
            rw [hcell k _ (List.getElem?_eq_getElem hlt), lwb_go hg, List.getElem?_eq_getElem hlt]
          · split
            · rename_i h7; subst h7; rw [hz, h0]
            · rw [hout3 _ (by omega), hout2 _ (by omega)]; exact he1 _ (by omega) (by omega)
        · rename_i hk
          rw [List.getElem?_eq_none (by rw [firstL_len]; omega)]
      cases hg2 : s2.goes with
      | true =>
        rw [toldI_t, if_pos (by decide)]
        refine ⟨ok3, by rw [n3, n2, n1], len3.trans (len2.trans len1), hout, .inr ⟨rfl, hd3.trans hg2, rfl, ?_⟩, fun h => ?_⟩
        · by_cases h0 : s2.wb 0 0 = 0
          · exact .inr (hfresh h0)
          · refine .inl (numL_no ?_)
            rw [pg_at, if_pos (by omega), Nat.mul_zero, Nat.add_zero, hz]; simpa using h0
        · rw [goes_still (hst2 (st1 h).2)] at hg2; cases hg2
      | false =>
        rw [toldI_f, if_neg (by decide), told0]
        exact ⟨ok3, by rw [n3, n2, n1], len3.trans (len2.trans len1), hout, .inl ⟨rfl, hd3.trans hg2, rfl, hfresh (lwb_go hg2 0 0)⟩, fun h => ⟨rfl, hst3 (hst2 (st1 h).2)⟩⟩
  · rw [if_pos (by decide)]
    exact ⟨ok1, n1, len1, out1, .inr ⟨rfl, hd1, rfl, .inl hn1⟩, fun h => absurd (st1 h).1 (by decide)⟩
end Go.Proofs.YtjednaendedpdaaGreat
