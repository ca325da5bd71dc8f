/- strings.Repeat, by the library's contract. Logs: number. slices.Reverse of a log's segments. Logs: Open. The logs' laws: over, where the flash has room; a log opened anew. Steps of MixV: slices that float, made of one value or of none; append to a row that the region itself made. -/
import Derived.Shelf.Strings.Repeat
import Derived.Test.YtjednaendedpdaaGreatProg
import Derived.Test.YtjednaendedpdaaGreatM11
import Derived.Test.YtjednaendedpdaaGreatM05
import Derived.WalkKit
import Derived.RegionTactic
import Derived.Deep.QuietTactic
import Derived.BigQuiet
import Derived.Test.YtjednaendedpdaaGreatM20
import Derived.Test.YtjednaendedpdaaGreatM01
namespace Go.Proofs
set_option maxRecDepth 100000
set_option linter.unusedVariables false
open Go.Shelf
def Tryz.lays105_ren : Go.Shelf.Ren := ⟨fun | 105 => 63 | 212 => 82 | 99 => 83 | 165 => 84 | 166 => 85 | 170 => 86 | 169 => 87 | 263 => 103 | 264 => 104 | 206 => 105 | 240 => 106 | 241 => 107 | 276 => 114 | 277 => 97 | n => n, fun | 9 => 9 | 3 => 3 | 4 => 4 | 20 => 20 | 0 => 0 | 46 => 118 | 109 => 119 | 5 => 5 | 72 => 124 | 76 => 128 | 51 => 137 | 146 => 138 | 53 => 140 | 148 => 141 | 70 => 122 | 37 => 22 | 75 => 127 | 127 => 143 | 164 => 145 | 80 => 130 | n => n, fun | n => n⟩
theorem Tryz.lays105 : Go.Proofs.Lays.n105 Tryz.prog Tryz.lays105_ren := {
  mixed := by kernel_rfl
  f99 := Tryz.func83.trans (congrArg some (by kernel_rfl))
  f105 := Tryz.func63.trans (congrArg some (by kernel_rfl))
  f165 := Tryz.func84.trans (congrArg some (by kernel_rfl))
  f166 := Tryz.func85.trans (congrArg some (by kernel_rfl))
  f169 := Tryz.func87.trans (congrArg some (by kernel_rfl))
  f170 := Tryz.func86.trans (congrArg some (by kernel_rfl))
  f206 := Tryz.func105.trans (congrArg some (by kernel_rfl))
  f212 := Tryz.func82.trans (congrArg some (by kernel_rfl))
  f240 := Tryz.func106.trans (congrArg some (by kernel_rfl))
  f241 := Tryz.func107.trans (congrArg some (by kernel_rfl))
  f263 := Tryz.func103.trans (congrArg some (by kernel_rfl))
  f264 := Tryz.func104.trans (congrArg some (by kernel_rfl))
  f276 := Tryz.func114.trans (congrArg some (by kernel_rfl))
  f277 := Tryz.func97.trans (congrArg some (by kernel_rfl))
  t0 := Tryz.underlying0
  a0 := Tryz.isAgg0
  z0 := Tryz.sizeOf0
  v0 := Tryz.zeroValue0
  t3 := Tryz.underlying3
  a3 := Tryz.isAgg3
  z3 := Tryz.sizeOf3
  v3 := Tryz.zeroValue3
  t4 := Tryz.underlying4
  a4 := Tryz.isAgg4
  z4 := Tryz.sizeOf4
  v4 := Tryz.zeroValue4
  t5 := Tryz.underlying5
  a5 := Tryz.isAgg5
  z5 := Tryz.sizeOf5
  v5 := Tryz.zeroValue5
  t9 := Tryz.underlying9
  a9 := Tryz.isAgg9
  z9 := Tryz.sizeOf9
  v9 := Tryz.zeroValue9
  t20 := Tryz.underlying20
  a20 := Tryz.isAgg20
  z20 := Tryz.sizeOf20
  v20 := Tryz.zeroValue20
  t37 := Tryz.underlying22
  a37 := Tryz.isAgg22
  z37 := Tryz.sizeOf22
  v37 := Tryz.zeroValue22
  t46 := Tryz.underlying118
  a46 := Tryz.isAgg118
  z46 := Tryz.sizeOf118
  v46 := Tryz.zeroValue118
  t51 := Tryz.underlying137
  a51 := Tryz.isAgg137
  z51 := Tryz.sizeOf137
  v51 := Tryz.zeroValue137
  t53 := Tryz.underlying140
  a53 := Tryz.isAgg140
  z53 := Tryz.sizeOf140
  v53 := Tryz.zeroValue140
  t70 := Tryz.underlying122
  a70 := Tryz.isAgg122
  z70 := Tryz.sizeOf122
  v70 := Tryz.zeroValue122
  t72 := Tryz.underlying124
  a72 := Tryz.isAgg124
  z72 := Tryz.sizeOf124
  v72 := Tryz.zeroValue124
  t75 := Tryz.underlying127
  a75 := Tryz.isAgg127
  z75 := Tryz.sizeOf127
  v75 := Tryz.zeroValue127
  t76 := Tryz.underlying128
  a76 := Tryz.isAgg128
  z76 := Tryz.sizeOf128
  v76 := Tryz.zeroValue128
  t109 := Tryz.underlying119
  a109 := Tryz.isAgg119
  z109 := Tryz.sizeOf119
  v109 := Tryz.zeroValue119
  t127 := Tryz.underlying143
  a127 := Tryz.isAgg143
  z127 := Tryz.sizeOf143
  v127 := Tryz.zeroValue143
  t146 := Tryz.underlying138
  a146 := Tryz.isAgg138
  z146 := Tryz.sizeOf138
  v146 := Tryz.zeroValue138
  t148 := Tryz.underlying141
  a148 := Tryz.isAgg141
  z148 := Tryz.sizeOf141
  v148 := Tryz.zeroValue141
  t164 := Tryz.underlying145
  a164 := Tryz.isAgg145
  z164 := Tryz.sizeOf145
  v164 := Tryz.zeroValue145 }
theorem Tryz.Builder_Extra_105 : Builder.Extra Tryz.prog Tryz.lays105_ren := {
  sizeBuilder := by kernel_rfl
  liesBuilder := by kernel_rfl
  t5 := Tryz.underlying5
  a5 := Tryz.isAgg5
  z5 := Tryz.sizeOf5
  v5 := Tryz.zeroValue5
  infoByte := by kernel_rfl
  cellsByte := by kernel_rfl
  sizeByte := by kernel_rfl
  neB5 := by decide }
open Go.RowKit Go.Lib in
theorem Tryz.strings_Repeat_main (s : ByteArray) (c : Nat) (w : World) (hc2 : 2 ≤ c) (hc : c ≤ 9223372036854775807) (hlen : s.size * c ≤ 140737488355328) (h0 : 0 < s.size) :
    Calls Tryz.prog 63 #[.string s, .int .i64 c] w fun e w' => e = .returned (.string ⟨(Lib.repeatL s.data.toList c).toArray⟩) ∧ Below w.heap.size w w' := Any.strings_Repeat_main Tryz.lays105 Tryz.Builder_Extra_105 s c w hc2 hc hlen h0
open Go.RowKit Go.Lib in
theorem Tryz.strings_Repeat_zero (s : ByteArray) (w : World) :
    Calls Tryz.prog 63 #[.string s, .int .i64 0] w fun e w' => e = .returned (.string ⟨#[]⟩) ∧ w' = w := Any.strings_Repeat_zero Tryz.lays105 s w
open Go.RowKit Go.Lib in
theorem Tryz.strings_Repeat_one (s : ByteArray) (w : World) :
    Calls Tryz.prog 63 #[.string s, .int .i64 1] w fun e w' => e = .returned (.string s) ∧ w' = w := Any.strings_Repeat_one Tryz.lays105 s w
open Go.RowKit Go.Lib in
theorem Tryz.strings_Repeat_empty (s : ByteArray) (c : Nat) (w : World) (hc2 : 2 ≤ c) (hc : c ≤ 9223372036854775807) (h0 : s.size = 0) :
    Calls Tryz.prog 63 #[.string s, .int .i64 c] w fun e w' => e = .returned (.string ⟨#[]⟩) ∧ w' = w := Any.strings_Repeat_empty Tryz.lays105 s c w hc2 hc h0
open Go.RowKit Go.Lib in
theorem Tryz.strings_Repeat_negative (s : ByteArray) (c : Int) (w : World) (hc : c < 0) :
    Calls Tryz.prog 63 #[.string s, .int .i64 c] w fun e w' => e = .panicked [{ v := repeatPanic Tryz.lays105_ren "strings: negative Repeat count", recovered := false }] ∧ w' = w := Any.strings_Repeat_negative Tryz.lays105 s c w hc
open Go.RowKit Go.Lib in
theorem Tryz.strings_Repeat_overflow (s : ByteArray) (c : Nat) (w : World) (hc : c ≤ 9223372036854775807) (hs : s.size ≤ 9223372036854775807) (hbig : 9223372036854775807 < s.size * c) :
    Calls Tryz.prog 63 #[.string s, .int .i64 c] w fun e w' => e = .panicked [{ v := repeatPanic Tryz.lays105_ren "strings: Repeat output length overflow", recovered := false }] ∧ w' = w := Any.strings_Repeat_overflow Tryz.lays105 s c w hc hs hbig
open Go.RowKit Go.Lib in
theorem Tryz.strings_Repeat (s : ByteArray) (c : Nat) (w : World) (hc : c ≤ 9223372036854775807) (hlen : s.size * c ≤ 140737488355328) :
    Calls Tryz.prog 63 #[.string s, .int .i64 c] w fun e w' => e = .returned (.string ⟨(Lib.repeatL s.data.toList c).toArray⟩) ∧ Below w.heap.size w w' := Any.strings_Repeat Tryz.lays105 Tryz.Builder_Extra_105 s c w hc hlen
end Go.Proofs
namespace Go.Proofs.YtjednaendedpdaaGreat
set_option maxRecDepth 100000
set_option linter.unusedVariables false
open Go Go.RowKit

theorem rep255 : (⟨(Lib.repeatL [255] 56).toArray⟩ : ByteArray) = ⟨(List.replicate 56 (255 : UInt8)).toArray⟩ := by decide
set_option maxHeartbeats 4000000 in
theorem lnumber_any (s : ByteArray) (hsz : s.size = 64) (w : World) : Calls Tryz.prog 28 #[.string s] w fun e w' => e = .returned (.int .i64 (numL s.data.toList : Nat)) ∧ Below w.heap.size w w' := by
  obtain ⟨N, hN⟩ : ∃ N, N = leNat ((s.data.toList.drop 1).take 6) := ⟨_, rfl⟩
  have hcut : s.extract 1 7 = ⟨((s.data.toList.drop 1).take 6).toArray⟩ := by apply ba_ext; rw [ba_cut]
  have GE := Box.mk (fun w => cget_any (s.extract 1 7) (by rw [ByteArray.size_extract]; omega) w)
  rw [show num (s.extract 1 7) = N by rw [hN, hcut]; rfl] at GE
  have hN48 : N < 281474976710656 := by
    have := leNat_lt ((s.data.toList.drop 1).take 6)
    have h2 : ((s.data.toList.drop 1).take 6).length = 6 := by rw [List.length_take, List.length_drop]; have : s.data.toList.length = 64 := by rw [← hsz]; simp
                                                               omega
    rw [h2, ← hN] at this; exact this
  obtain ⟨R, hR⟩ : ∃ R, R = numL s.data.toList := ⟨_, rfl⟩
  rw [← hR]
  unfold numL at hR
  rw [← hN] at hR
  dsimp only at hR
  by_cases c0 : N = 0
  · have c0I : (N : Int) < 1 := by omega
    have HR : Box (R = 0) := ⟨by rw [hR, if_pos (.inl c0)]⟩
    clear hR hN hcut c0
    go_enter Tryz.func28, Tryz.ntmps28
    go_wp2_with fail
    refine (GE.out _).mono ?_
    rintro e w1 ⟨rfl, rfl⟩
    go_wp2_with fail
    go_ret
    rw [HR.out]; exact ⟨rfl, Below.refl _ _⟩
  · have c0I : ¬ (N : Int) < 1 := by omega
    have BG := Box.mk (fun w => lbegin_any N hN48 w)
    have RP := Box.mk (fun w => Tryz.strings_Repeat_main ⟨#[255]⟩ 56 w (by omega) (by omega) (by decide) (by decide))
    have h255 : (⟨#[255]⟩ : ByteArray).data.toList = [255] := rfl
    rw [h255] at RP
    rw [rep255] at RP
    have hfl : ∀ b r : ByteArray, b = ⟨(begL N).toArray⟩ → r = ⟨(List.replicate 56 (255 : UInt8)).toArray⟩ → (b ++ ⟨#[0]⟩ ++ r).data.toList = firstL N := fun b r hb hr => by
      rw [hb, hr]; unfold firstL; simp
    obtain ⟨b, hb⟩ : ∃ b : ByteArray, b = ⟨(begL N).toArray⟩ := ⟨_, rfl⟩
    obtain ⟨r, hr⟩ : ∃ r : ByteArray, r = ⟨(List.replicate 56 (255 : UInt8)).toArray⟩ := ⟨_, rfl⟩
    have hX := hfl b r hb hr
    have hbs : b.size = 7 := by rw [hb]; simp [ByteArray.size, begL, leList_length]
    have hrs : r.size = 56 := by rw [hr]; simp [ByteArray.size]
    rw [← hb] at BG
    rw [← hr] at RP
    clear hb hr hfl hcut
    by_cases c1 : firstL N = s.data.toList
    · have c1I : ((b ++ ⟨#[0]⟩ ++ r).toList == s.toList) = true := by rw [beq_iff_eq, ByteArray.toList_eq, ByteArray.toList_eq, hX, c1]
      have HR : Box (R = N) := ⟨by rw [hR, if_neg (by intro h; rcases h with h | h; exact c0 h; exact h c1)]⟩
      clear hR hN c0 hX c1
      go_enter Tryz.func28, Tryz.ntmps28
      go_wp2_with fail
      refine (GE.out _).mono ?_
      rintro e w1 ⟨rfl, rfl⟩
      go_wp2_with fail
      refine (BG.out _).mono ?_
      rintro e w2 ⟨rfl, hb2⟩
      go_wp2_with fail
      refine (RP.out _).mono ?_
      rintro e w3 ⟨rfl, hb3⟩
      have BE := Box.mk (hb2.trans (hb3.mono hb2.size))
      clear hb2 hb3
      go_wp2_with fail
      go_ret
      rw [HR.out]; exact ⟨rfl, BE.out⟩
    · have c1I : ((b ++ ⟨#[0]⟩ ++ r).toList == s.toList) = false := by rw [beq_eq_false_iff_ne, ByteArray.toList_eq, ByteArray.toList_eq, hX]; exact c1
      have HR : Box (R = 0) := ⟨by rw [hR, if_pos (.inr c1)]⟩
      clear hR hN c0 hX c1
      go_enter Tryz.func28, Tryz.ntmps28
      go_wp2_with fail
      refine (GE.out _).mono ?_
      rintro e w1 ⟨rfl, rfl⟩
      go_wp2_with fail
      refine (BG.out _).mono ?_
      rintro e w2 ⟨rfl, hb2⟩
      go_wp2_with fail
      refine (RP.out _).mono ?_
      rintro e w3 ⟨rfl, hb3⟩
      have BE := Box.mk (hb2.trans (hb3.mono hb2.size))
      clear hb2 hb3
      go_wp2_with fail
      go_ret
      rw [HR.out]; exact ⟨rfl, BE.out⟩
end Go.Proofs.YtjednaendedpdaaGreat
namespace Go.Proofs.YtjednaendedpdaaGreat
set_option maxRecDepth 100000
set_option linter.unusedVariables false
open Go Go.RowKit

/-- The i outermost pairs are exchanged. -/
def revd (l : List (Nat × Nat)) (i : Nat) : List (Nat × Nat) := (List.range l.length).map fun k => if k < i ∨ l.length - i ≤ k then l.getD (l.length - 1 - k) (0, 0) else l.getD k (0, 0)
theorem revd_len (l : List (Nat × Nat)) (i : Nat) : (revd l i).length = l.length := by simp [revd]
theorem revd_at (l : List (Nat × Nat)) (i k : Nat) (h : k < l.length) : (revd l i)[k]? = some (if k < i ∨ l.length - i ≤ k then l.getD (l.length - 1 - k) (0, 0) else l.getD k (0, 0)) := by simp [revd, h]
theorem revd_zero (l : List (Nat × Nat)) : revd l 0 = l := by
  apply List.ext_getElem?
  intro k
  by_cases h : k < l.length
  · rw [revd_at _ _ _ h, if_neg (by omega), List.getD_eq_getElem?_getD, List.getElem?_eq_getElem h]; rfl
  · rw [List.getElem?_eq_none (by rw [revd_len]; omega), List.getElem?_eq_none (by omega)]
theorem revd_all (l : List (Nat × Nat)) (i : Nat) (h : l.length ≤ 2 * i + 1) : revd l i = l.reverse := by
  apply List.ext_getElem?
  intro k
  by_cases hk : k < l.length
  · rw [revd_at _ _ _ hk, List.getElem?_reverse hk]
    by_cases h1 : k < i ∨ l.length - i ≤ k
    · rw [if_pos h1, List.getD_eq_getElem?_getD, List.getElem?_eq_getElem (show l.length - 1 - k < l.length by omega)]; rfl
    · rw [if_neg h1, show l.length - 1 - k = k by omega, List.getD_eq_getElem?_getD, List.getElem?_eq_getElem hk]; rfl
  · rw [List.getElem?_eq_none (by rw [revd_len]; omega), List.getElem?_eq_none (by simp; omega)]
theorem revd_set (l : List (Nat × Nat)) (i : Nat) (h : 2 * i + 1 < l.length) : ((revd l i).set i (l.getD (l.length - 1 - i) (0, 0))).set (l.length - 1 - i) (l.getD i (0, 0)) = revd l (i + 1) := by
  apply List.ext_getElem?
  intro k
  by_cases hk : k < l.length
  · rw [revd_at _ _ _ hk]
    by_cases h1 : k = l.length - 1 - i
    · subst h1
      rw [List.getElem?_set_self (by rw [List.length_set, revd_len]; omega), if_pos (by omega), show l.length - 1 - (l.length - 1 - i) = i by omega]
    · rw [List.getElem?_set_ne (by omega)]
      by_cases h2 : k = i
      · subst h2
        rw [List.getElem?_set_self (by rw [revd_len]; omega), if_pos (by omega)]
      · rw [List.getElem?_set_ne (by omega), revd_at _ _ _ hk]
        by_cases h3 : k < i ∨ l.length - i ≤ k
        · rw [if_pos h3, if_pos (by omega)]
        · rw [if_neg h3, if_neg (by omega)]
  · rw [List.getElem?_eq_none (by rw [List.length_set, List.length_set, revd_len]; omega), List.getElem?_eq_none (by rw [revd_len]; omega)]
theorem segC_set (l : List (Nat × Nat)) (i : Nat) (x : Nat × Nat) (h : i < l.length) : segC (l.set i x) = (segC l).take (i * 2) ++ [.int .i64 (x.1 : Int), .int .i64 (x.2 : Int)] ++ (segC l).drop (i * 2 + 2) := by
  rw [List.set_eq_take_append_cons_drop, if_pos h, segC_app, (segC_cut l i).1, show segC (x :: l.drop (i + 1)) = [.int .i64 (x.1 : Int), .int .i64 (x.2 : Int)] ++ segC (l.drop (i + 1)) from rfl, (segC_cut l (i + 1)).2, List.append_assoc, show (i + 1) * 2 = i * 2 + 2 by omega]
theorem seg_put (l : List (Nat × Nat)) (rest : List Value) (i : Nat) (x : Nat × Nat) (h : i < l.length) : (segC l ++ rest).take (i * 2) ++ [.int .i64 (x.1 : Int), .int .i64 (x.2 : Int)] ++ (segC l ++ rest).drop (i * 2 + 2) = segC (l.set i x) ++ rest := by
  have hl := segC_len l
  rw [segC_set l i x h, List.take_append_of_le_length (by omega), List.drop_append_of_le_length (by omega)]
  simp
theorem seg_get (l : List (Nat × Nat)) (rest : List Value) (i : Nat) (x : Nat × Nat) (h : l[i]? = some x) : (segC l ++ rest).toArray[i * 2]? = some (.int .i64 (x.1 : Int)) ∧ (segC l ++ rest).toArray[i * 2 + 1]? = some (.int .i64 (x.2 : Int)) := by
  have hl := segC_len l
  have hi := (List.getElem?_eq_some_iff.1 h).1
  have := segC_at l i x h
  rw [show 2 * i = i * 2 by omega] at this
  simp only [List.getElem?_toArray]
  rw [List.getElem?_append_left (by omega), List.getElem?_append_left (by omega)]
  exact this
theorem set2 {α : Type} (a b : α) : ∀ (k : Nat) (l : List α), k + 1 < l.length → (l.set k a).set (k + 1) b = l.take k ++ [a, b] ++ l.drop (k + 2)
  | 0, _ :: _ :: _, _ => rfl
  | k + 1, x :: l, h => by
    have := set2 a b k l (by simpa using h)
    simp only [List.set_cons_succ, List.take_succ_cons, List.cons_append, List.drop_succ_cons]
    rw [this]
theorem row_put {w : World} {gs : Nat} {cs : List Value} {t : TypeId} (h : w.heap[gs]? = some (.cells cs.toArray t (0, 0))) (k : Nat) (v : Value) : (w.setCell ⟨gs, k, none⟩ v).heap[gs]? = some (.cells (cs.set k v).toArray t (0, 0)) := by
  rw [heap_setCell_same _ _ _ _ _ _ h]; simp
theorem row_put2 {w : World} {gs : Nat} {l : List (Nat × Nat)} {rest : List Value} {t : TypeId} (h : w.heap[gs]? = some (.cells (segC l ++ rest).toArray t (0, 0))) (i : Nat) (x : Nat × Nat) (hi : i < l.length) : ((w.setCell ⟨gs, i * 2, none⟩ (.int .i64 (x.1 : Int))).setCell ⟨gs, i * 2 + 1, none⟩ (.int .i64 (x.2 : Int))).heap[gs]? = some (.cells (segC (l.set i x) ++ rest).toArray t (0, 0)) := by
  have hl := segC_len l
  rw [row_put (row_put h _ _) _ _, set2 _ _ _ _ (by rw [List.length_append]; omega), seg_put l rest i x hi]
set_option maxHeartbeats 4000000 in
theorem sreverse_any (gs cap : Nat) (l : List (Nat × Nat)) (rest : List Value) (w : World) (hl : l.length ≤ 1000) (hr : w.heap[gs]? = some (.cells (segC l ++ rest).toArray 78 (0, 0))) :
    Calls Tryz.prog 29 #[.slice (some ⟨gs, 0, none⟩) l.length cap] w fun e w' => e = .returned (.tuple #[]) ∧ w'.heap[gs]? = some (.cells (segC l.reverse ++ rest).toArray 78 (0, 0)) ∧ Upd [gs] w w' := by
  obtain ⟨n, hn⟩ : ∃ n, n = l.length := ⟨_, rfl⟩
  have HN := Box.mk hn
  rw [← hn] at hl ⊢
  have R0 := Box.mk (show w.heap[gs]? = some (.cells (segC (revd l 0) ++ rest).toArray 78 (0, 0)) by rw [revd_zero]; exact hr)
  clear hr hn
  go_enter Tryz.func29, Tryz.ntmps29
  go_wp2_with fail
  go_loopw [2, 3] (fun a b wr => ∃ i : Nat, 2 * i ≤ n ∧ a = .int .i64 (i : Nat) ∧ b = .int .i64 ((n : Int) - 1 - (i : Int)) ∧ wr.heap[gs]? = some (.cells (segC (revd l i) ++ rest).toArray 78 (0, 0)) ∧ Upd [gs] w wr) (fun a _ _ => n - (intOf a).toNat)
  case atStart => exact ⟨0, by omega, rfl, int_congr (by omega), R0.out, Upd.refl _ _⟩
  case round =>
    clear R0
    obtain ⟨i, hi, rfl, rfl, hrow, hu⟩ := hrel
    have HR := Box.mk hrow; have HU := Box.mk hu
    have HGS := Box.mk (show gs < wr.heap.size from (Array.getElem?_eq_some_iff.1 hrow).1)
    clear hrow hu
    by_cases hlt : 2 * i + 1 < n
    · obtain ⟨j, hj, HJ⟩ : ∃ j : Nat, (n : Int) - 1 - (i : Int) = (j : Int) ∧ Box (j = n - 1 - i) := ⟨n - 1 - i, by omega, ⟨rfl⟩⟩
      rw [hj]
      have hij : (i : Int) < (j : Int) := by omega
      have hin : (i : Int) < (n : Int) := by omega
      have hjn : (j : Int) < (n : Int) := by omega
      have hin2 : i < n := by omega
      have hjn2 : j < n := by omega
      obtain ⟨x, hx⟩ : ∃ x, x = l.getD i (0, 0) := ⟨_, rfl⟩
      obtain ⟨y, hy⟩ : ∃ y, y = l.getD j (0, 0) := ⟨_, rfl⟩
      obtain ⟨cx1, cx2⟩ := seg_get (revd l i) rest i x (by rw [revd_at _ _ _ (by have := HN.out; omega), if_neg (by have := HN.out; omega), hx])
      obtain ⟨cy1, cy2⟩ := seg_get (revd l i) rest j y (by rw [revd_at _ _ _ (by have := HN.out; omega), if_neg (by have := HN.out; omega), hy])
      have HXY := Box.mk (And.intro hx hy)
      have HLT := Box.mk hlt; have HJI := Box.mk hj
      clear hx hy hlt hj hi
      have hr9 := HR.out
      have e1 := (cell_of_row _ _ _ _ _ _ hr9).trans cx1
      have e2 := (cell_of_row _ _ _ _ _ _ hr9).trans cx2
      have e3 := (cell_of_row _ _ _ _ _ _ hr9).trans cy1
      have e4 := (cell_of_row _ _ _ _ _ _ hr9).trans cy2
      have f1 : wr.frozen? ⟨gs, i * 2, none⟩ = false := frozen_of_row _ _ _ _ _ hr9
      have f2 : wr.frozen? ⟨gs, i * 2 + 1, none⟩ = false := frozen_of_row _ _ _ _ _ hr9
      have f3 : wr.frozen? ⟨gs, j * 2, none⟩ = false := frozen_of_row _ _ _ _ _ hr9
      have f4 : wr.frozen? ⟨gs, j * 2 + 1, none⟩ = false := frozen_of_row _ _ _ _ _ hr9
      clear hr9 cx1 cx2 cy1 cy2
      obtain ⟨x1, hx1⟩ : ∃ a : Int, a = (x.1 : Int) := ⟨_, rfl⟩
      obtain ⟨x2, hx2⟩ : ∃ a : Int, a = (x.2 : Int) := ⟨_, rfl⟩
      obtain ⟨y1, hy1⟩ : ∃ a : Int, a = (y.1 : Int) := ⟨_, rfl⟩
      obtain ⟨y2, hy2⟩ : ∃ a : Int, a = (y.2 : Int) := ⟨_, rfl⟩
      rw [← hx1] at e1
      rw [← hx2] at e2
      rw [← hy1] at e3
      rw [← hy2] at e4
      have HX := Box.mk (And.intro hx1 (And.intro hx2 (And.intro hy1 hy2)))
      clear hx1 hx2 hy1 hy2
      go_wp2_with fail
      go_region
      go_wp2_with fail
      have hr9 := HR.out
      have hrl := revd_len l i
      have hi' : i < (revd l i).length := by have := HN.out; omega
      have hj' : j < ((revd l i).set i y).length := by rw [List.length_set]; have := HN.out; omega
      have q4 := row_put2 (row_put2 hr9 i y hi') j x hj'
      have HW : Box (((revd l i).set i y).set j x = revd l (i + 1)) := ⟨by
        have := revd_set l i (by have := HN.out; have := HLT.out; omega)
        rw [HXY.out.1, HXY.out.2, show j = l.length - 1 - i by rw [HJ.out, HN.out]]; exact this⟩
      rw [HW.out, ← HX.out.1, ← HX.out.2.1, ← HX.out.2.2.1, ← HX.out.2.2.2] at q4
      exact ⟨⟨i + 1, by have := HLT.out; omega, by go_num, int_congr (by have := HJI.out; omega), q4, (((((HU.out.setCell (.inl (List.mem_singleton.2 rfl)) _).setCell (.inl (List.mem_singleton.2 rfl)) _).setCell (.inl (List.mem_singleton.2 rfl)) _).setCell (.inl (List.mem_singleton.2 rfl)) _)).drew⟩, by have := HLT.out; simp [intOf]; omega⟩
    · have hij : ¬ (i : Int) < (n : Int) - 1 - (i : Int) := by omega
      have HE : Box (revd l i = l.reverse) := ⟨revd_all l i (by have := HN.out; omega)⟩
      clear hlt
      go_wp2_with fail
      go_end0
      exact ⟨rfl, by rw [← HE.out]; exact HR.out, HU.out⟩
end Go.Proofs.YtjednaendedpdaaGreat
namespace Go.Proofs.YtjednaendedpdaaGreat
set_option maxRecDepth 100000
set_option linter.unusedVariables false
open Go Go.RowKit

/-- The first k numbers, and zeros behind them. -/
def nrow (nums : List Nat) (B k : Nat) : List Value := (List.range B).map fun b => .int .i64 ((if b < k then nums.getD b 0 else 0 : Nat) : Int)
theorem nrow_len (nums : List Nat) (B k : Nat) : (nrow nums B k).length = B := by simp [nrow]
theorem nrow_at (nums : List Nat) (B k b : Nat) (h : b < B) : (nrow nums B k).toArray[b]? = some (.int .i64 ((if b < k then nums.getD b 0 else 0 : Nat) : Int)) := by simp [nrow, h]
theorem nrow_zero (nums : List Nat) (B : Nat) : (nrow nums B 0).toArray = Array.replicate B (.int .i64 0) := by
  apply Array.ext'
  simp [nrow]
  apply List.ext_getElem?
  intro i
  by_cases h : i < B <;> simp [h]
theorem nrow_set (nums : List Nat) (B k : Nat) (h : k < B) : (nrow nums B k).set k (.int .i64 ((nums.getD k 0 : Nat) : Int)) = nrow nums B (k + 1) := by
  apply List.ext_getElem?
  intro i
  by_cases h1 : i = k
  · subst h1
    rw [List.getElem?_set_self (by rw [nrow_len]; exact h)]
    unfold nrow
    rw [List.getElem?_map, List.getElem?_range h]
    simp
  · rw [List.getElem?_set_ne (fun e => h1 e.symm)]
    unfold nrow
    rw [List.getElem?_map, List.getElem?_map]
    by_cases h2 : i < B
    · rw [List.getElem?_range h2]
      simp only [Option.map_some]
      by_cases h3 : i < k
      · rw [if_pos h3, if_pos (by omega)]
      · rw [if_neg h3, if_neg (by omega)]
    · rw [List.getElem?_eq_none (by simp; omega)]; rfl
/-- What stands in Open: the log at g, with no segment yet, and the numbers at gn. -/
structure OpnS (w wr : World) (q g gn : Nat) (v : Value) (row : List Value) : Prop where
  be : Below w.heap.size w wr
  lg : wr.heap[g]? = some (.cells #[.pointer (some ⟨q, 0, none⟩), v, .bool false] 73 (0, 0))
  nr : wr.heap[gn]? = some (.cells row.toArray 3 (0, 0))
  ge : w.heap.size ≤ g ∧ g < gn
theorem OpnS.same {w wr w1 : World} {q g gn : Nat} {v : Value} {row : List Value} (h : OpnS w wr q g gn v row) (hb : Below wr.heap.size wr w1) : OpnS w w1 q g gn v row :=
  ⟨h.be.trans (hb.mono h.be.size), (hb.block g (Array.getElem?_eq_some_iff.1 h.lg).1).trans h.lg, (hb.block gn (Array.getElem?_eq_some_iff.1 h.nr).1).trans h.nr, h.ge⟩
/-- The first k segments that are found, the newest first. -/
def fnd (nums : List Nat) (B nw k : Nat) : List (Nat × Nat) := (List.range k).map fun i => ((nw + B - i) % B, nums.getD nw 0 - i)
theorem fnd_succ (nums : List Nat) (B nw k : Nat) : fnd nums B nw (k + 1) = fnd nums B nw k ++ [((nw + B - k) % B, nums.getD nw 0 - k)] := by simp [fnd, List.range_succ]
theorem fnd_len (nums : List Nat) (B nw k : Nat) : (fnd nums B nw k).length = k := by simp [fnd]
theorem own_sl {w : World} {base size n : Nat} {e : TypeId} {v : Value} {xs : List Value} (h : w.ownsRow base e size v n xs) : ∃ a cap, v = .slice a n cap := by
  rcases h.2 with ⟨h1, h2⟩ | ⟨g, cap, cur, hv, _⟩
  · exact ⟨none, 0, by rw [h1, h2]⟩
  · exact ⟨_, cap, hv⟩
/-- What Open leaves. -/
def LOpn (F B : Int) (q p bb cb : Nat) (s : FS) (w : World) (r : Except Int (List (Nat × Nat))) (e : Ending) (w' : World) : Prop :=
  Below w.heap.size w w' ∧ match r with
  | .error c => e = .returned (.tuple #[.pointer none, .int .i64 c])
  | .ok segs => ∃ g v, e = .returned (.tuple #[.pointer (some ⟨g, 0, none⟩), .int .i64 0]) ∧ LgS w' F B g q p bb cb v s ⟨segs, false⟩ ∧ w.heap.size ≤ g ∧ ∀ k, v.ownBlock = some k → w.heap.size ≤ k
set_option maxHeartbeats 8000000 in
theorem lopen_any (q p bb cb : Nat) (F B : Nat) (s : FS) (w : World) (hf : Fl 89 w p bb cb s) (hok : s.Ok) (hp : Pa w q p (F : Nat) (B : Nat)) (hi : In s.n.length (F : Nat) (B : Nat)) (hq : q ∉ [p, bb, cb]) :
    Calls Tryz.prog 10 #[.pointer (some ⟨q, 0, none⟩)] w (LOpn (F : Nat) (B : Nat) q p bb cb s w (s.lopen F B)) := by
  have hB : B ≤ 256 := by have h1 := hi.hi; have h2 := hi.lo; have h3 := hi.few; omega
  obtain ⟨g, hg⟩ : ∃ g, g = w.heap.size := ⟨_, rfl⟩
  have b0 : Below w.heap.size w (w.alloc (.cells #[.pointer (some ⟨q, 0, none⟩), .slice none 0 0, .bool false] 73)) := (Below.refl _ _).alloc (Nat.le_refl _) _
  have L0 := Box.mk (show (w.alloc (.cells #[.pointer (some ⟨q, 0, none⟩), .slice none 0 0, .bool false] 73)).heap[g]? = some (.cells #[.pointer (some ⟨q, 0, none⟩), .slice none 0 0, .bool false] 73 (0, 0)) by rw [hg]; exact heap_alloc_new _ _)
  have B0 := Box.mk b0
  have BASE := Box.mk (And.intro hf (And.intro hok (And.intro hp (And.intro hi hq))))
  have BL := Box.mk (fun w0 (hb : Below w.heap.size w w0) (h : w0.heap[g]? = some (.cells #[.pointer (some ⟨q, 0, none⟩), .slice none 0 0, .bool false] 73 (0, 0))) => lblocks_any g q p (F : Nat) (B : Nat) s.n.length (.slice none 0 0) ⟨[], false⟩ w0 ⟨h, World.ownsRow_nil _ _ _ _⟩ (hp.upd (Upd.of_below (S := []) hb) (by simp)) hi)
  have HG := Box.mk hg
  obtain ⟨R, hR⟩ : ∃ R, R = s.lopen F B := ⟨_, rfl⟩
  rw [← hR]
  unfold FS.lopen at hR
  have HBx := Box.mk hB
  have hgw : w.heap.size = g := hg.symm
  have hmk := fun w => make_ints B (B : Int) rfl (by omega) w
  clear hf hok hp hi hq b0 hg
  by_cases h4 : B < 4
  · have h4I : decide ((B : Int) < 4) = true := by rw [decide_eq_true_eq]; omega
    rw [if_pos h4] at hR
    have HR := Box.mk hR
    clear hR h4 hB hmk
    go_enter Tryz.func10, Tryz.ntmps10
    go_wp2_with fail
    refine (BL.out _ B0.out L0.out).mono ?_
    rintro e w1 ⟨rfl, rfl⟩
    go_wp2_with fail
    go_ret2
    rw [HR.out]
    exact ⟨B0.out, rfl⟩
  · have h4I : decide ((B : Int) < 4) = false := by rw [decide_eq_false_iff_not]; omega
    have HB4 := Box.mk (show 4 ≤ B by omega)
    rw [if_neg h4] at hR
    obtain ⟨nums, hnums⟩ : ∃ nums, nums = s.nums F B := ⟨_, rfl⟩
    rw [← hnums] at hR
    dsimp only at hR
    have PR := Box.mk (fun (j : Nat) (hj : j < B) (A : Nat) (hA : A = 512 * j) w1 (hb : Below w.heap.size w w1) => pread_any q p bb cb (F : Nat) (B : Nat) s (A : Nat) 64 w1 (BASE.out.1.upd (Upd.of_below (S := []) hb) (by simp) (by simp) (by simp)) BASE.out.2.1 (BASE.out.2.2.1.upd (Upd.of_below (S := []) hb) (by simp)) BASE.out.2.2.2.1 (by omega) (by omega))
    have HPV : Box (∀ (j : Nat) (hj : j < B) (A : Nat) (hA : A = 512 * j), preadV s (F : Nat) (B : Nat) (A : Nat) 64 = if s.dead then (⟨#[]⟩, 2) else (⟨(s.pg F j 0).toArray⟩, 0)) := ⟨fun j hj A hA => by
      have hin : inB (B : Int) (A : Nat) 64 = true := by rw [inB_iff, hA]; omega
      unfold preadV FS.pg
      rw [if_pos hin, hA, show (512 * (F : Int) + ((512 * j : Nat) : Int)).toNat = 512 * (F + j) + 64 * 0 by omega]; rfl⟩
    have HR := Box.mk hR
    have HNM := Box.mk hnums
    clear hR h4 hnums
    have S0 : Box (OpnS w ((w.alloc (.cells #[.pointer (some ⟨q, 0, none⟩), .slice none 0 0, .bool false] 73)).alloc (.cells (Array.replicate B (.int .i64 0)) 3)) q g (g + 1) (.slice none 0 0) (nrow nums B 0)) := ⟨⟨B0.out.alloc (by simp) _, (heap_alloc_old _ _ (Array.getElem?_eq_some_iff.1 L0.out).1).trans L0.out, by
      rw [nrow_zero, HG.out, show w.heap.size + 1 = (w.alloc (.cells #[.pointer (some ⟨q, 0, none⟩), .slice none 0 0, .bool false] 73)).heap.size by simp]; exact heap_alloc_new _ _, by rw [HG.out]; omega⟩⟩
    have NM : Box (∀ (P : List UInt8) (hP : P.length = 64) w, Calls Tryz.prog 28 #[.string ⟨P.toArray⟩] w fun e w' => e = .returned (.int .i64 (numL P : Nat)) ∧ Below w.heap.size w w') := ⟨fun P hP w => lnumber_any ⟨P.toArray⟩ (by simpa [ByteArray.size] using hP) w⟩
    have PL : Box (∀ j, j < B → (s.pg F j 0).length = 64) := ⟨fun j hj => by
      have h1 := BASE.out.2.1.len; have h2 := BASE.out.2.2.2.1.hi
      unfold FS.pg; rw [List.length_take, List.length_drop, h1]; omega⟩
    go_enter Tryz.func10, Tryz.ntmps10
    go_wp2_with fail
    refine (BL.out _ B0.out L0.out).mono ?_
    rintro e w1 ⟨rfl, rfl⟩
    go_wp2_with fail
    refine (BL.out _ B0.out L0.out).mono ?_
    rintro e w1 ⟨rfl, rfl⟩
    go_upto_region 5 with (fail)
    generalize (w.alloc (.cells #[.pointer (some ⟨q, 0, none⟩), .slice none 0 0, .bool false] 73)).alloc (.cells (Array.replicate B (.int .i64 0)) 3) = W0 at S0 ⊢
    clear hmk B0 L0 BL h4I hgw
    go_wp2_with fail
    go_loopw [6, 7, 8, 9, 23] (fun a _ _ _ i wr => ∃ j : Nat, j ≤ B ∧ i = .int .i64 (j : Nat) ∧ a = .int .i64 (nwst nums j : Nat) ∧ (0 < j → s.dead = false) ∧ OpnS w wr q g (g + 1) (.slice none 0 0) (nrow nums B j)) (fun _ _ _ _ i _ => B - (intOf i).toNat)
    case atStart => exact ⟨0, by omega, rfl, rfl, fun h => absurd h (by omega), S0.out⟩
    case round =>
      clear S0
      obtain ⟨j, hj, rfl, rfl, hdj, hs⟩ := hrel
      have HS := Box.mk hs
      clear hs
      by_cases hlt : j < B
      · have hltI : (j : Int) < (B : Int) := by omega
        obtain ⟨A, hA, HA⟩ : ∃ y : Nat, IntKind.i64.wrap ((j : Int) * 512) = (y : Int) ∧ Box (y = 512 * j) := ⟨512 * j, by rw [IntKind.wrap_i64]; omega, ⟨rfl⟩⟩
        have P1 := Box.mk (PR.out j hlt A HA.out wr HS.out.be)
        have hpv := HPV.out j hlt A HA.out
        have HLT := Box.mk hlt
        have hB256 : (B : Int) ≤ 256 := by omega
        cases hd : s.dead with
        | true =>
          rw [hd, if_pos rfl] at hpv
          rw [hpv] at P1
          have HRR : Box (R = .error 2) := ⟨by rw [HR.out, hd, if_pos rfl]⟩
          clear hd hpv hdj hlt hj
          go_wp2_with fail
          refine P1.out.mono ?_
          rintro e w1 ⟨rfl, rfl⟩
          go_wp2_with fail
          go_ret2
          rw [HRR.out]
          exact ⟨HS.out.be, rfl⟩
        | false =>
          rw [hd, if_neg (by decide)] at hpv
          rw [hpv] at P1
          have N1 := Box.mk (NM.out (s.pg F j 0) (PL.out j hlt))
          have HD := Box.mk hd
          have hnj : numL (s.pg F j 0) = nums.getD j 0 := by rw [HNM.out, nums_at s F B j hlt]
          obtain ⟨a1, ha1⟩ : ∃ x, x = nums.getD j 0 := ⟨_, rfl⟩
          rw [hnj, ← ha1] at N1
          have HA1 := Box.mk ha1
          generalize s.pg F j 0 = P at P1 N1
          clear hd hpv hdj hlt hj hnj ha1
          go_wp2_with fail
          refine P1.out.mono ?_
          rintro e w1 ⟨rfl, rfl⟩
          go_wp2_with fail
          refine (N1.out _).mono ?_
          rintro e w2 ⟨rfl, hb⟩
          have H2 := Box.mk (HS.out.same hb)
          clear hb P1 N1
          have c1 := (cell_of_row _ _ _ _ _ _ H2.out.nr).trans (nrow_at nums B j j HLT.out)
          have f1 : w2.frozen? ⟨g + 1, j, none⟩ = false := frozen_of_row _ _ _ _ _ H2.out.nr
          have H3 : Box (OpnS w (w2.setCell ⟨g + 1, j, none⟩ (.int .i64 (a1 : Int))) q g (g + 1) (.slice none 0 0) (nrow nums B (j + 1))) := ⟨⟨by
            have := H2.out.be
            exact Upd.below this ((Upd.refl [g + 1] w2).setCell (.inl (List.mem_singleton.2 rfl)) _) (fun i hi => by rw [List.mem_singleton] at hi; have := HG.out; omega) this.size, (heap_setCell_other _ _ _ _ (by simp)).trans H2.out.lg, by rw [← nrow_set nums B j HLT.out, ← HA1.out]; exact row_put H2.out.nr _ _, H2.out.ge⟩⟩
          go_upto_region 13 with (fail)
          obtain ⟨W3, hW3⟩ : ∃ W3, W3 = w2.setCell ⟨g + 1, j, none⟩ (.int .i64 (a1 : Int)) := ⟨_, rfl⟩
          rw [← hW3] at H3 ⊢
          clear c1 f1 H2 hW3
          have hnw : nwst nums j < B := by
            rcases Nat.eq_zero_or_pos j with rfl | h
            · have := HLT.out; simpa [nwst] using this
            · have := (nwst_spec nums j).2 h; have := HLT.out; omega
          have hnwj : nwst nums j < j + 1 := by
            rcases Nat.eq_zero_or_pos j with rfl | h
            · simp [nwst]
            · have := (nwst_spec nums j).2 h; omega
          have c1 := (cell_of_row _ _ _ _ _ _ H3.out.nr).trans (nrow_at nums B (j + 1) j HLT.out)
          have c2 := (cell_of_row _ _ _ _ _ _ H3.out.nr).trans (nrow_at nums B (j + 1) (nwst nums j) hnw)
          rw [if_pos (by omega)] at c1
          rw [if_pos hnwj] at c2
          have HSUC : Box (nwst nums (j + 1) = if nums.getD j 0 > nums.getD (nwst nums j) 0 then j else nwst nums j) := ⟨rfl⟩
          have hnwI : ((nwst nums j : Nat) : Int) < (B : Int) := by omega
          obtain ⟨nw, hnwe⟩ : ∃ x, x = nwst nums j := ⟨_, rfl⟩
          have ha1 := HA1.out
          obtain ⟨a2, ha2⟩ : ∃ x, x = nums.getD (nwst nums j) 0 := ⟨_, rfl⟩
          rw [← ha1] at c1 HSUC
          rw [← ha2] at c2 HSUC
          rw [← hnwe] at c2 HSUC hnwI ⊢
          clear hnwe ha1 ha2 hnw hnwj
          by_cases hc : a1 > a2
          · have hcI : (a2 : Int) < (a1 : Int) := by omega
            rw [if_pos hc] at HSUC
            clear hc
            go_wp2_with fail
            go_quiet (fail)
            go_wp2_with fail
            exact ⟨⟨j + 1, HLT.out, by go_num, by rw [HSUC.out], fun _ => trivial, H3.out.same (belD (Below.refl _ _) _)⟩, by have := HLT.out; simp [intOf]; omega⟩
          · have hcI : ¬ (a2 : Int) < (a1 : Int) := by omega
            rw [if_neg hc] at HSUC
            clear hc
            go_wp2_with fail
            go_quiet (fail)
            go_wp2_with fail
            exact ⟨⟨j + 1, HLT.out, by go_num, by rw [HSUC.out], fun _ => trivial, H3.out.same (belD (Below.refl _ _) _)⟩, by have := HLT.out; simp [intOf]; omega⟩
      · have hltI : ¬ (j : Int) < (B : Int) := by omega
        obtain rfl : j = B := by omega
        have hdd := hdj (by have := HB4.out; omega)
        have hR := HR.out
        rw [hdd, if_neg (by decide)] at hR
        obtain ⟨nw, hnw⟩ : ∃ x, x = nwst nums j := ⟨_, rfl⟩
        rw [← hnw] at hR ⊢
        have hnwB : nw < j := by rw [hnw]; exact (nwst_spec nums j).2 (by have := HB4.out; omega)
        obtain ⟨top, htop⟩ : ∃ x, x = nums.getD nw 0 := ⟨_, rfl⟩
        rw [← htop] at hR
        have c1 := (cell_of_row _ _ _ _ _ _ HS.out.nr).trans (nrow_at nums j j nw hnwB)
        rw [if_pos hnwB, ← htop] at c1
        have hnwI : (nw : Int) < (j : Int) := by omega
        have HTOP := Box.mk (And.intro htop hnwB)
        clear htop hnw hnwB hdd hdj hlt hj PR HPV NM PL
        by_cases h0 : top = 0
        · have h0I : ((top : Int) == 0) = true := by rw [beq_iff_eq]; omega
          have HRR : Box (R = .error 140) := ⟨by rw [hR, if_pos (.inl h0)]⟩
          clear h0 hR
          go_wp2_with fail
          go_ret2
          rw [HRR.out]
          exact ⟨HS.out.be, rfl⟩
        · have h0I : ((top : Int) == 0) = false := by rw [beq_eq_false_iff_ne]; omega
          by_cases hbig : 140737488355328 < top
          · have hbI : (140737488355328 : Int) < (top : Int) := by omega
            have HRR : Box (R = .error 140) := ⟨by rw [hR, if_pos (.inr hbig)]⟩
            clear h0 hR hbig
            go_wp2_with fail
            go_ret2
            rw [HRR.out]
            exact ⟨HS.out.be, rfl⟩
          · have hbI : ¬ (140737488355328 : Int) < (top : Int) := by omega
            have HRR : Box (R = .ok (segsOf nums nw)) := ⟨by rw [hR, if_neg (by omega)]⟩
            have HT := Box.mk (show 1 ≤ top ∧ top ≤ 140737488355328 from by omega)
            have HNL : Box (nums.length = j) := ⟨by rw [HNM.out]; simp [FS.nums]⟩
            have HBP0 : Box (backP nums nw 0 = true) := ⟨by unfold backP; rw [HNL.out, Nat.sub_zero, Nat.add_mod_right, Nat.mod_eq_of_lt HTOP.out.2, ← HTOP.out.1]; simp; omega⟩
            clear h0 hR hbig
            go_wp2_with fail
            go_quiet (fail)
            have HS1 := Box.mk (HS.out.same (belD (Below.refl _ _) nq))
            generalize wr.drewN nq = W1 at HS1 ⊢
            clear c1 HS
            go_upto_block 2 with (fail)
            go_cut [10] (fun _ wx => ∃ v gv cv, v = .slice (some ⟨gv, 0, none⟩) (runB (backP nums nw) j) cv ∧ OpnS w wx q g (g + 1) v (nrow nums j j) ∧ wx.ownsRow (g + 2) 78 2 v (runB (backP nums nw) j) (segC (fnd nums j nw (runB (backP nums nw) j))))
            case first =>
              go_wp2_with fail
              go_loopw [10, 11] (fun b n wr => ∃ (k : Nat) (v : Value), k ≤ j ∧ k ≤ top ∧ b = .int .i64 (((nw + j - k) % j : Nat) : Int) ∧ n = .int .i64 ((top - k : Nat) : Int) ∧ (∀ i, i < k → backP nums nw i = true) ∧ OpnS w wr q g (g + 1) v (nrow nums j j) ∧ wr.ownsRow (g + 2) 78 2 v k (segC (fnd nums j nw k))) (fun _ n _ => (intOf n).toNat)
              case atStart => exact ⟨0, .slice none 0 0, by omega, by omega, int_congr (by rw [Nat.sub_zero, Nat.add_mod_right, Nat.mod_eq_of_lt HTOP.out.2]), int_congr (by omega), fun i h => absurd h (by omega), HS1.out, World.ownsRow_nil _ _ _ _⟩
              case round =>
                clear HS1
                obtain ⟨k, v, hk, hkt, rfl, rfl, hall, hs, hown⟩ := hrel
                have HS2 := Box.mk hs; have OWN := Box.mk hown; have HALL := Box.mk hall
                obtain ⟨av, cv, rfl⟩ := own_sl hown
                obtain ⟨d0, d1, d2⟩ : wr.cell? ⟨g, 0, none⟩ = some (.pointer (some ⟨q, 0, none⟩)) ∧ wr.cell? ⟨g, 1, none⟩ = some (.slice av k cv) ∧ wr.cell? ⟨g, 2, none⟩ = some (.bool false) := by
                  refine ⟨?_, ?_, ?_⟩ <;> (rw [cell_of_row _ _ _ _ _ _ hs.lg]; rfl)
                obtain ⟨bk, hbk⟩ : ∃ x, x = (nw + j - k) % j := ⟨_, rfl⟩
                have hbkj : bk < j := by rw [hbk]; exact Nat.mod_lt _ (by have := HB4.out; omega)
                have c2 := (cell_of_row _ _ _ _ _ _ hs.nr).trans (nrow_at nums j j bk hbkj)
                rw [if_pos hbkj] at c2
                obtain ⟨nb, hnb⟩ : ∃ x, x = nums.getD bk 0 := ⟨_, rfl⟩
                obtain ⟨t, ht⟩ : ∃ x, x = top - k := ⟨_, rfl⟩
                have hbp : backP nums nw k = (decide (k < top) && decide (nb = t)) := by
                  unfold backP; rw [HNL.out, ← HTOP.out.1, ← hbk, ← hnb, ht]
                rw [← hnb] at c2
                rw [← hbk, ← ht]
                have hbkI : (bk : Int) < (j : Int) := by omega
                have hj256 : (j : Int) ≤ 256 := by omega
                have htI : (t : Int) ≤ 140737488355328 := by have := HT.out; omega
                have HBK := Box.mk (And.intro hbk (And.intro ht hbkj))
                have HK := Box.mk (And.intro hk hkt)
                have EX : Box ((k = j ∨ backP nums nw k = false) → ∃ v gv cv, v = .slice (some ⟨gv, 0, none⟩) (runB (backP nums nw) j) cv ∧ OpnS w wr q g (g + 1) v (nrow nums j j) ∧ wr.ownsRow (g + 2) 78 2 v (runB (backP nums nw) j) (segC (fnd nums j nw (runB (backP nums nw) j)))) := ⟨fun h => by
                  have hrun := runB_spec j (backP nums nw) k HK.out.1 HALL.out h
                  rw [hrun]
                  have hk0 : 0 < k := by
                    rcases Nat.eq_zero_or_pos k with rfl | h0
                    · rcases h with h | h
                      · have := HB4.out; omega
                      · rw [HBP0.out] at h; cases h
                    · exact h0
                  obtain ⟨gv, cv', hv⟩ := own_form OWN.out hk0
                  exact ⟨_, gv, cv', hv, HS2.out, OWN.out⟩⟩
                clear hs hown hall hbk hnb ht hbkj hk hkt
                by_cases p0 : k < top
                · have p0I : (0 : Int) < (t : Int) := by have := HBK.out.2.1; omega
                  by_cases p1 : nb = t
                  · have p1I : ((nb : Int) == (t : Int)) = true := by rw [beq_iff_eq]; omega
                    by_cases p2 : k < j
                    · have p2I : (k : Int) < (j : Int) := by omega
                      have HBPK : Box (backP nums nw k = true) := ⟨by rw [hbp, decide_eq_true p0, decide_eq_true p1]; rfl⟩
                      have P02 := Box.mk (And.intro p0 p2)
                      have SZ : Box (g + 2 ≤ wr.heap.size) := ⟨by have := (Array.getElem?_eq_some_iff.1 HS2.out.nr).1; omega⟩
                      have HNOT : Box (∀ x, x < g + 2 → x ∉ (Value.slice av k cv).ownBlock.toList) := ⟨fun x hx hm => by
                        rw [Option.mem_toList] at hm
                        have := (World.ownsRow.lt OWN.out x hm).1; omega⟩
                      obtain ⟨i0, hi0, hz0, hsz0, hby0⟩ := info_parts info_tseg
                      have hk256 : k ≤ 256 := by omega
                      have HGL := Box.mk (Array.getElem?_eq_some_iff.1 HS2.out.lg).1
                      clear hbp p0 p1 p2 EX
                      go_wp2_with (at_builtin; refine wpList_append_own _ rfl (.tmp 95) (.tmp 99) 71 rfl (g + 2) 78 i0 _ 2 16 Tryz.underlying71 hi0 hz0 hsz0 hby0 rfl (by decide) (.slice av k cv) k (segC (fnd nums j nw k)) rfl (own_alloc OWN.out _) ⟨wr.heap.size, 0, none⟩ 1 1 [.int .i64 (bk : Int), .int .i64 (t : Int)] rfl rfl (two_newR wr _ _ _) (two_oneR _ _) (by unfold maxLen; omega) (by omega) (by have := SZ.out; simp; omega) ?_; intro v' w' hown' hgrow hnil; obtain ⟨g', cap', rfl⟩ := own_form hown' (by omega); have u9 : Upd ((Value.slice av k cv).ownBlock.toList) wr w' := ⟨hgrow.os, hgrow.tape, hgrow.output, Nat.le_trans (by simp) hgrow.size, fun i hi hn => (hgrow.block i (Nat.lt_of_lt_of_le hi (by simp)) (fun e => hn (by rw [← e]; simp))).trans (heap_alloc_old _ _ hi)⟩; have rg' := (u9.block g HGL.out (HNOT.out g (by omega))).trans HS2.out.lg; have f1' : w'.frozen? ⟨g, 1, none⟩ = false := frozen_of_row _ _ _ _ _ rg'; have e1' : w'.cell? ⟨g, 1, none⟩ = some (.slice av k cv) := (cell_of_row _ _ _ _ _ _ rg').trans rfl)
                      have hown2 := HBK.out
                      have p02 := P02.out
                      have hgg : g' ≠ g := by have := (World.ownsRow.lt hown' g' rfl).1; omega
                      have u10 : Upd (g :: (Value.slice av k cv).ownBlock.toList) wr (w'.setCell ⟨g, 1, none⟩ (.slice (some ⟨g', 0, none⟩) (k + 1) cap')) := (u9.mono (T := g :: (Value.slice av k cv).ownBlock.toList) (fun i hi => List.mem_cons_of_mem _ hi)).setCell (.inl (List.mem_cons_self ..)) _
                      have hsc : segC (fnd nums j nw k) ++ [.int .i64 (bk : Int), .int .i64 (t : Int)] = segC (fnd nums j nw (k + 1)) := by
                        rw [fnd_succ, segC_app, ← hown2.1, ← HTOP.out.1, ← hown2.2.1]; rfl
                      rw [hsc] at hown'
                      refine ⟨⟨k + 1, .slice (some ⟨g', 0, none⟩) (k + 1) cap', by omega, by omega, int_congr ?_, int_congr (by omega), fun i hi => ?_, ⟨Upd.below HS2.out.be u10 (fun i hi => ?_) HS2.out.be.size, ?_, ?_, HS2.out.ge⟩, own_keep hown' fun i hi _ => heap_setCell_other _ _ _ _ (by simp [Value.ownBlock] at hi; subst hi; exact hgg)⟩, by simp [intOf]; omega⟩
                      · have e1 : (bk : Int) + (j : Int) - 1 = ((bk + (j - 1) : Nat) : Int) := by omega
                        rw [e1, ← Int.natCast_emod, hown2.1, Nat.mod_add_mod, show nw + j - k + (j - 1) = (nw + j - (k + 1)) + j by omega, Nat.add_mod_right]
                      · rcases Nat.lt_succ_iff_lt_or_eq.1 hi with h | rfl
                        · exact HALL.out i h
                        · exact HBPK.out
                      · have hg0 := HG.out
                        rcases List.mem_cons.1 hi with rfl | hi
                        · omega
                        · rw [Option.mem_toList] at hi
                          have := (World.ownsRow.lt OWN.out i hi).1; omega
                      · rw [heap_setCell_same _ _ _ _ _ _ rg']; rfl
                      · exact (heap_setCell_other _ _ _ _ (by simp)).trans ((u9.block (g + 1) (Array.getElem?_eq_some_iff.1 HS2.out.nr).1 (HNOT.out (g + 1) (by omega))).trans HS2.out.nr)
                    · have p2I : ¬ (k : Int) < (j : Int) := by omega
                      have hE := EX.out (.inl (by have := HK.out; omega))
                      clear hbp p0 p1 p2 EX
                      go_wp2_with fail
                      go_meet
                      exact hE
                  · have p1I : ((nb : Int) == (t : Int)) = false := by rw [beq_eq_false_iff_ne]; omega
                    have hE := EX.out (.inr (by rw [hbp, decide_eq_false p1]; simp))
                    clear hbp p0 p1 EX
                    go_wp2_with fail
                    go_meet
                    exact hE
                · have p0I : ¬ (0 : Int) < (t : Int) := by have := HBK.out.2.1; omega
                  have hE := EX.out (.inr (by rw [hbp, decide_eq_false p0]; rfl))
                  clear hbp p0 EX
                  go_wp2_with fail
                  go_meet
                  exact hE
            case rest =>
              clear HS1
              obtain ⟨v, gv, cv, rfl, hs, hown⟩ := hcut
              obtain ⟨m, hm⟩ : ∃ m, m = runB (backP nums nw) j := ⟨_, rfl⟩
              rw [← hm] at hs hown
              obtain ⟨cur, hcur, hge, hmc, hcm, hcs, htk⟩ : ∃ cur, wc.heap[gv]? = some (.cells cur 78 (0, 0)) ∧ g + 2 ≤ gv ∧ m ≤ cv ∧ cv ≤ maxLen ∧ cur.size = cv * 2 ∧ cur.toList.take (m * 2) = segC (fnd nums j nw m) := by
                rcases hown.2 with ⟨h, _⟩ | ⟨g', c', cur, hv, hge, h1, h2, h3, h4, h5⟩
                · cases h
                · cases hv; exact ⟨cur, h1, hge, h2, h3, h4, h5⟩
              obtain ⟨rest, hrest⟩ : ∃ rest, rest = cur.toList.drop (m * 2) := ⟨_, rfl⟩
              have hrow : wc.heap[gv]? = some (.cells (segC (fnd nums j nw m) ++ rest).toArray 78 (0, 0)) := by
                rw [hcur, ← htk, hrest, List.take_append_drop]
              have hmj : m ≤ j := by rw [hm]; exact runB_le _ _
              have RV := Box.mk (sreverse_any gv cv (fnd nums j nw m) rest wc (by rw [fnd_len]; omega) hrow)
              rw [fnd_len] at RV
              have HRS : Box (R = .ok (fnd nums j nw m).reverse) := ⟨by
                rw [HRR.out]; unfold segsOf fnd; rw [HNL.out, ← hm]⟩
              have HS2 := Box.mk hs
              have HGE := Box.mk (And.intro hge (And.intro hmc hcm))
              have HSZ : Box ((segC (fnd nums j nw m) ++ rest).length = cv * 2) := ⟨by
                rw [← htk, hrest, List.take_append_drop, Array.length_toList, hcs]⟩
              have d1 : wc.cell? ⟨g, 1, none⟩ = some (.slice (some ⟨gv, 0, none⟩) m cv) := by rw [cell_of_row _ _ _ _ _ _ hs.lg]; rfl
              clear hs hown hcur hge hmc hcm hcs htk hrest hrow hmj hm
              go_wp2_with fail
              refine RV.out.mono ?_
              rintro e w9 ⟨rfl, hr9, hu⟩
              go_wp2_with fail
              go_ret2
              rw [HRS.out]
              have hge := HGE.out
              have hg0 := HG.out
              have hlt := (Array.getElem?_eq_some_iff.1 HS2.out.lg).1
              have hb9 : Below w.heap.size w w9 := Upd.below HS2.out.be hu (fun i hi => by rw [List.mem_singleton] at hi; omega) HS2.out.be.size
              have h1 := BASE.out.1.lt; have h2 := BASE.out.2.2.1.lt
              refine ⟨hb9, g, _, rfl, ⟨⟨?_, ?_, ?_⟩, BASE.out.1.upd (Upd.of_below (S := []) hb9) (by simp) (by simp) (by simp), BASE.out.2.1, BASE.out.2.2.1.upd (Upd.of_below (S := []) hb9) (by simp), BASE.out.2.2.2.1, ⟨(hu.block g hlt (by simp; omega)).trans HS2.out.lg, ?_⟩⟩, by omega, ?_⟩
              · have := BASE.out.2.2.2.2
                simp only [List.mem_cons, List.not_mem_nil, or_false, not_or] at this ⊢
                exact ⟨by omega, this⟩
              · simp only [List.mem_cons, List.not_mem_nil, or_false, not_or]; omega
              · intro k hk
                simp [Value.ownBlock] at hk
                subst hk
                simp only [List.mem_cons, List.not_mem_nil, or_false, not_or]; omega
              · have hsl := HSZ.out
                rw [List.length_append, segC_len, fnd_len] at hsl
                show World.ownsRow w9 0 78 2 _ (fnd nums j nw m).reverse.length _
                rw [List.length_reverse, fnd_len]
                refine ⟨by rw [segC_len, List.length_reverse, fnd_len]; omega, .inr ⟨gv, cv, _, rfl, Nat.zero_le _, hr9, hge.2.1, hge.2.2, ?_, ?_⟩⟩
                · rw [List.size_toArray, List.length_append, segC_len, List.length_reverse, fnd_len]; omega
                · show List.take _ (_ ++ _) = _
                  rw [List.take_append_of_le_length (by rw [segC_len, List.length_reverse, fnd_len]; omega), List.take_of_length_le (by rw [segC_len, List.length_reverse, fnd_len]; omega)]
              · intro k hk
                simp [Value.ownBlock] at hk
                omega
end Go.Proofs.YtjednaendedpdaaGreat
namespace Go.Proofs.YtjednaendedpdaaGreat
set_option maxRecDepth 100000
set_option linter.unusedVariables false
open Go Go.RowKit

set_option maxHeartbeats 2000000 in
theorem lover_in (p bb cb : Nat) (b : Int) (s : FS) (w : World) (hf : Fl 89 w p bb cb s) (hi : In s.n.length (1 : Nat) (bN b : Nat)) : Calls Tryz.prog 7 #[.pointer (some ⟨p, 0, none⟩), .int .i64 b] w fun e w' => ∃ q, e = .returned (.pointer (some ⟨q, 0, none⟩)) ∧ Pa w' q p (1 : Nat) (bN b : Nat) ∧ w.heap.size ≤ q ∧ Below w.heap.size w w' := by
  have RG := Box.mk (fun w => region_any b w)
  have hbd := bN_bd b
  generalize bN b = B at RG hbd hi ⊢
  have PN := Box.mk (fun w h => pnew_yes p bb cb (1 : Nat) (B : Nat) s w h hi)
  have HF := Box.mk hf
  clear hf hi hbd
  go_enter Tryz.func7, Tryz.ntmps7
  go_wp2_with fail
  refine (RG.out _).mono ?_
  rintro e w1 ⟨rfl, hb⟩
  have F1 := Box.mk (HF.out.upd (Upd.of_below (S := []) hb) (by simp) (by simp) (by simp)); have B1 := Box.mk hb
  clear hb
  go_wp2_with fail
  refine (PN.out _ F1.out).mono ?_
  rintro e w2 ⟨q, rfl, hp, hq, hb⟩
  have P2 := Box.mk hp; have B2 := Box.mk (B1.out.trans (hb.mono B1.out.size)); have Q2 := Box.mk (Nat.le_trans B1.out.size hq)
  clear hp hq hb F1 B1
  go_wp2_with fail
  go_ret
  exact ⟨q, rfl, P2.out, Q2.out, B2.out⟩
/-- A log opened anew over the same flash. -/
theorem OwL.anew {w wr w1 : World} {B g q p bb cb g2 q2 : Nat} {v v2 : Value} {s s2 : FS} {l l2 : LS} (h : OwL w wr B g q p bb cb v s l) (hl : LgS w1 (1 : Nat) (B : Nat) g2 q2 p bb cb v2 s2 l2) (hg : w.heap.size ≤ g2) (hq : w.heap.size ≤ q2) (hv : ∀ k, v2.ownBlock = some k → w.heap.size ≤ k) (hb : Below w.heap.size w w1) : OwL w w1 B g2 q2 p bb cb v2 s2 l2 :=
  ⟨hl, fun k hk => by
    simp only [List.mem_cons, List.not_mem_nil, or_false] at hk
    rcases hk with rfl | rfl | rfl | rfl | rfl
    · exact hg
    · exact hq
    · exact h.lo _ (by simp)
    · exact h.lo _ (by simp)
    · exact h.lo _ (by simp), hv, hb⟩
end Go.Proofs.YtjednaendedpdaaGreat
namespace Go.Proofs.YtjednaendedpdaaGreat
set_option maxRecDepth 100000
set_option linter.unusedVariables false
namespace MixV
open Go Go.RowKit

section
variable {P : Program} {W : World} {S : List Nat} {T : (World → Prop) → List Nat → Act → Prop} {L : List (Oper × Kd)} {F : World → Prop} {N : List Nat} {a : Act} {o : Oper}
theorem gm_oneW {ty e : TypeId} (x : Operand) (ho : o.op = .buildSlice ty 1 #[(0, x)]) (v : Value) (hx : a.eval x = v) (hr : ∀ w, (Instr.buildSlice ty 1 #[(0, v)]).run P w = .ok (.slice (some ⟨w.heap.size, 0, none⟩) 1 1) (w.alloc (.cells #[v] e)))
    (h : ∀ b, W.heap.size ≤ b → b ∉ N → wpG P W S T L (fun w => F w ∧ w.heap[b]? = some (.cells #[v] e (0, 0))) (b :: N) (a.put o.dst (.slice (some ⟨b, 0, none⟩) 1 1))) : wpG P W S T ((o, .new (.cells #[v] e (0, 0)) fun b => .slice (some ⟨b, 0, none⟩) 1 1) :: L) F N a :=
  ⟨fun w _ => by
    subst hx
    unfold execOp
    simp only [ho, Sem.run_bind, List.map_toArray, List.map_cons, List.map_nil, hr, Result.andThen_ok, Sem.run_pure], h⟩
theorem gm_zeroW {ty e : TypeId} (ho : o.op = .buildSlice ty 0 #[]) (hr : ∀ w, (Instr.buildSlice ty 0 #[]).run P w = .ok (.slice (some ⟨w.heap.size, 0, none⟩) 0 0) (w.alloc (.cells #[] e)))
    (h : ∀ b, W.heap.size ≤ b → b ∉ N → wpG P W S T L (fun w => F w ∧ w.heap[b]? = some (.cells #[] e (0, 0))) (b :: N) (a.put o.dst (.slice (some ⟨b, 0, none⟩) 0 0))) : wpG P W S T ((o, .new (.cells #[] e (0, 0)) fun b => .slice (some ⟨b, 0, none⟩) 0 0) :: L) F N a :=
  ⟨fun w _ => by
    unfold execOp
    simp only [ho, Sem.run_bind, List.map_toArray, List.map_nil, hr, Result.andThen_ok, Sem.run_pure], h⟩
theorem add_off0 (g j : Nat) : (⟨g, 0, none⟩ : Addr).add j = ⟨g, j, none⟩ := by
  simp only [Addr.add]
  split
  · rename_i h; simp_all
  · simp
theorem own_zero {w : World} {base b : Nat} {e : TypeId} (hb : base ≤ b) (h : w.heap[b]? = some (.cells #[] e (0, 0))) : w.ownsRow base e 1 (.slice (some ⟨b, 0, none⟩) 0 0) 0 [] :=
  ⟨by simp, .inr ⟨b, 0, #[], rfl, hb, h, Nat.le_refl _, by unfold maxLen; omega, rfl, rfl⟩⟩
theorem gm_appN (s x : Operand) (t : TypeId) (ho : o.op = .call { callee := .builtin .append, args := #[s, x], argTypes := #[t, t] })
    (base : Nat) (e : TypeId) (i : TypeInfo) (z : Value) (by_ : Nat) (ht : P.underlying t = some (.slice e)) (hi : P.info? e = some i) (hz : i.zero = some z) (hsize : i.size = 1) (hby : i.bytes = by_) (hzs : z.cells.size = 1) (hby2 : by_ ≤ 1000)
    (v : Value) (n : Nat) (xs : List Value) (hs : a.eval s = v) (ad : Addr) (m c : Nat) (news : List Value) (hx : a.eval x = .slice (some ad) m c) (hl : news.length = m * 1) (h1 : ∀ u ∈ news, u.oneCell' = true) (hn : n + m ≤ 1000000)
    (hN : ∀ k, v.ownBlock = some k → k ∈ N)
    (hF : ∀ w, GrS S W w → F w → w.ownsRow base e 1 v n xs ∧ base ≤ w.heap.size ∧ ∀ j u, news[j]? = some u → w.cell? (ad.add j) = some u)
    (h : ∀ v', wpG P W S T L (fun w => w.ownsRow base e 1 v' (n + m) (xs ++ news)) N (a.put o.dst v')) : wpG P W S T ((o, .cha) :: L) F N a := by
  intro w hw hFw
  obtain ⟨own, hB, hy⟩ := hF w hw hFw
  have hb2 : (n + m) * by_ ≤ 140737488355328 := Nat.le_trans (Nat.mul_le_mul hn hby2) (by decide)
  obtain ⟨v', w', r1, r2, r3, r4⟩ := run_append_own (P := P) w base t o.type e i z 1 by_ ht hi hz hsize hby hzs (by decide) v n xs own ad m c news hl hy h1 (by unfold maxLen; omega) hb2 hB
  refine .inr (.inr ⟨v', w', ?_, ?_, _, [], ?_, r2, (fun _ hb => by cases hb), h v'⟩)
  · simp [execOp, ho, resolve, invoke, builtin, hs, hx, r1, Result.andThen]
  · refine ⟨v.ownBlock.toList, fun d hd => hN d (by rw [Option.mem_toList] at hd; exact hd), ⟨r3.os, r3.tape, r3.output, r3.size, fun k hk hn => r3.block k hk fun e => hn (List.mem_append_right _ (by rw [← e]; simp))⟩⟩
  · exact fun w1 w2 hg ho => own_below ho hg
end
end MixV
end Go.Proofs.YtjednaendedpdaaGreat
