/- strings.Repeat, by the library's contract. Logs: how a log lies in memory; Pages, blocks, told. Rows of the call's own: made, appended to where there is room, as worlds that are known. Rows of the call's own, marked or not: []byte(s), append, string(b). Nothing of the program. Logs: clean, begin, makes. Logs: makes. -/
import Derived.Shelf.Strings.Repeat
import Derived.Test.YtgcbmjflodgnbaaGreatDoorProg
import Derived.Test.YtgcbmjflodgnbaaGreatDoorM04
import Derived.Test.YtgcbmjflodgnbaaGreatDoorM05
import Derived.Test.YtgcbmjflodgnbaaGreatDoorM01
import Derived.ArgAppend
import Derived.Laws.MakeOwn
import Derived.Laws.IdiomCopy
import Derived.Deep.Upon
import Derived.OwnWalk
import Derived.Laws.IdiomStrings
import Derived.Deep.DeepCutAuto
import Derived.Deep.CutBlock
namespace Go.Proofs
set_option maxRecDepth 100000
set_option linter.unusedVariables false
open Go.Shelf
def Tryz.lays105_ren : Go.Shelf.Ren := ⟨fun | 105 => 68 | 212 => 77 | 99 => 83 | 165 => 84 | 166 => 85 | 170 => 86 | 169 => 87 | 263 => 92 | 264 => 93 | 206 => 97 | 240 => 98 | 241 => 99 | 276 => 102 | 277 => 78 | n => n, fun | 9 => 9 | 3 => 3 | 4 => 4 | 20 => 20 | 0 => 0 | 46 => 117 | 109 => 118 | 5 => 5 | 72 => 125 | 76 => 127 | 51 => 140 | 146 => 141 | 53 => 143 | 148 => 144 | 70 => 123 | 37 => 42 | 75 => 93 | 127 => 148 | 164 => 149 | 80 => 70 | n => n, fun | n => n⟩
theorem Tryz.lays105 : Go.Proofs.Lays.n105 Tryz.prog Tryz.lays105_ren := {
  mixed := by kernel_rfl
  f99 := Tryz.func83.trans (congrArg some (by kernel_rfl))
  f105 := Tryz.func68.trans (congrArg some (by kernel_rfl))
  f165 := Tryz.func84.trans (congrArg some (by kernel_rfl))
  f166 := Tryz.func85.trans (congrArg some (by kernel_rfl))
  f169 := Tryz.func87.trans (congrArg some (by kernel_rfl))
  f170 := Tryz.func86.trans (congrArg some (by kernel_rfl))
  f206 := Tryz.func97.trans (congrArg some (by kernel_rfl))
  f212 := Tryz.func77.trans (congrArg some (by kernel_rfl))
  f240 := Tryz.func98.trans (congrArg some (by kernel_rfl))
  f241 := Tryz.func99.trans (congrArg some (by kernel_rfl))
  f263 := Tryz.func92.trans (congrArg some (by kernel_rfl))
  f264 := Tryz.func93.trans (congrArg some (by kernel_rfl))
  f276 := Tryz.func102.trans (congrArg some (by kernel_rfl))
  f277 := Tryz.func78.trans (congrArg some (by kernel_rfl))
  t0 := Tryz.underlying0
  a0 := Tryz.isAgg0
  z0 := Tryz.sizeOf0
  v0 := Tryz.zeroValue0
  t3 := Tryz.underlying3
  a3 := Tryz.isAgg3
  z3 := Tryz.sizeOf3
  v3 := Tryz.zeroValue3
  t4 := Tryz.underlying4
  a4 := Tryz.isAgg4
  z4 := Tryz.sizeOf4
  v4 := Tryz.zeroValue4
  t5 := Tryz.underlying5
  a5 := Tryz.isAgg5
  z5 := Tryz.sizeOf5
  v5 := Tryz.zeroValue5
  t9 := Tryz.underlying9
  a9 := Tryz.isAgg9
  z9 := Tryz.sizeOf9
  v9 := Tryz.zeroValue9
  t20 := Tryz.underlying20
  a20 := Tryz.isAgg20
  z20 := Tryz.sizeOf20
  v20 := Tryz.zeroValue20
  t37 := Tryz.underlying42
  a37 := Tryz.isAgg42
  z37 := Tryz.sizeOf42
  v37 := Tryz.zeroValue42
  t46 := Tryz.underlying117
  a46 := Tryz.isAgg117
  z46 := Tryz.sizeOf117
  v46 := Tryz.zeroValue117
  t51 := Tryz.underlying140
  a51 := Tryz.isAgg140
  z51 := Tryz.sizeOf140
  v51 := Tryz.zeroValue140
  t53 := Tryz.underlying143
  a53 := Tryz.isAgg143
  z53 := Tryz.sizeOf143
  v53 := Tryz.zeroValue143
  t70 := Tryz.underlying123
  a70 := Tryz.isAgg123
  z70 := Tryz.sizeOf123
  v70 := Tryz.zeroValue123
  t72 := Tryz.underlying125
  a72 := Tryz.isAgg125
  z72 := Tryz.sizeOf125
  v72 := Tryz.zeroValue125
  t75 := Tryz.underlying93
  a75 := Tryz.isAgg93
  z75 := Tryz.sizeOf93
  v75 := Tryz.zeroValue93
  t76 := Tryz.underlying127
  a76 := Tryz.isAgg127
  z76 := Tryz.sizeOf127
  v76 := Tryz.zeroValue127
  t109 := Tryz.underlying118
  a109 := Tryz.isAgg118
  z109 := Tryz.sizeOf118
  v109 := Tryz.zeroValue118
  t127 := Tryz.underlying148
  a127 := Tryz.isAgg148
  z127 := Tryz.sizeOf148
  v127 := Tryz.zeroValue148
  t146 := Tryz.underlying141
  a146 := Tryz.isAgg141
  z146 := Tryz.sizeOf141
  v146 := Tryz.zeroValue141
  t148 := Tryz.underlying144
  a148 := Tryz.isAgg144
  z148 := Tryz.sizeOf144
  v148 := Tryz.zeroValue144
  t164 := Tryz.underlying149
  a164 := Tryz.isAgg149
  z164 := Tryz.sizeOf149
  v164 := Tryz.zeroValue149 }
theorem Tryz.Builder_Extra_105 : Builder.Extra Tryz.prog Tryz.lays105_ren := {
  sizeBuilder := by kernel_rfl
  liesBuilder := by kernel_rfl
  t5 := Tryz.underlying5
  a5 := Tryz.isAgg5
  z5 := Tryz.sizeOf5
  v5 := Tryz.zeroValue5
  infoByte := by kernel_rfl
  cellsByte := by kernel_rfl
  sizeByte := by kernel_rfl
  neB5 := by decide }
open Go.RowKit Go.Lib in
theorem Tryz.strings_Repeat_main (s : ByteArray) (c : Nat) (w : World) (hc2 : 2 ≤ c) (hc : c ≤ 9223372036854775807) (hlen : s.size * c ≤ 140737488355328) (h0 : 0 < s.size) :
    Calls Tryz.prog 68 #[.string s, .int .i64 c] w fun e w' => e = .returned (.string ⟨(Lib.repeatL s.data.toList c).toArray⟩) ∧ Below w.heap.size w w' := Any.strings_Repeat_main Tryz.lays105 Tryz.Builder_Extra_105 s c w hc2 hc hlen h0
open Go.RowKit Go.Lib in
theorem Tryz.strings_Repeat_zero (s : ByteArray) (w : World) :
    Calls Tryz.prog 68 #[.string s, .int .i64 0] w fun e w' => e = .returned (.string ⟨#[]⟩) ∧ w' = w := Any.strings_Repeat_zero Tryz.lays105 s w
open Go.RowKit Go.Lib in
theorem Tryz.strings_Repeat_one (s : ByteArray) (w : World) :
    Calls Tryz.prog 68 #[.string s, .int .i64 1] w fun e w' => e = .returned (.string s) ∧ w' = w := Any.strings_Repeat_one Tryz.lays105 s w
open Go.RowKit Go.Lib in
theorem Tryz.strings_Repeat_empty (s : ByteArray) (c : Nat) (w : World) (hc2 : 2 ≤ c) (hc : c ≤ 9223372036854775807) (h0 : s.size = 0) :
    Calls Tryz.prog 68 #[.string s, .int .i64 c] w fun e w' => e = .returned (.string ⟨#[]⟩) ∧ w' = w := Any.strings_Repeat_empty Tryz.lays105 s c w hc2 hc h0
open Go.RowKit Go.Lib in
theorem Tryz.strings_Repeat_negative (s : ByteArray) (c : Int) (w : World) (hc : c < 0) :
    Calls Tryz.prog 68 #[.string s, .int .i64 c] w fun e w' => e = .panicked [{ v := repeatPanic Tryz.lays105_ren "strings: negative Repeat count", recovered := false }] ∧ w' = w := Any.strings_Repeat_negative Tryz.lays105 s c w hc
open Go.RowKit Go.Lib in
theorem Tryz.strings_Repeat_overflow (s : ByteArray) (c : Nat) (w : World) (hc : c ≤ 9223372036854775807) (hs : s.size ≤ 9223372036854775807) (hbig : 9223372036854775807 < s.size * c) :
    Calls Tryz.prog 68 #[.string s, .int .i64 c] w fun e w' => e = .panicked [{ v := repeatPanic Tryz.lays105_ren "strings: Repeat output length overflow", recovered := false }] ∧ w' = w := Any.strings_Repeat_overflow Tryz.lays105 s c w hc hs hbig
open Go.RowKit Go.Lib in
theorem Tryz.strings_Repeat (s : ByteArray) (c : Nat) (w : World) (hc : c ≤ 9223372036854775807) (hlen : s.size * c ≤ 140737488355328) :
    Calls Tryz.prog 68 #[.string s, .int .i64 c] w fun e w' => e = .returned (.string ⟨(Lib.repeatL s.data.toList c).toArray⟩) ∧ Below w.heap.size w w' := Any.strings_Repeat Tryz.lays105 Tryz.Builder_Extra_105 s c w hc hlen
end Go.Proofs
namespace Go.Proofs.YtgcbmjflodgnbaaGreatDoor
set_option maxRecDepth 100000
set_option linter.unusedVariables false
open Go Go.RowKit

/-- The cells of segments. -/
def segC (l : List (Nat × Nat)) : List Value := l.flatMap fun s => [.int .i64 (s.1 : Int), .int .i64 (s.2 : Int)]
theorem segC_len : ∀ l : List (Nat × Nat), (segC l).length = 2 * l.length
  | [] => rfl
  | s :: l => by have := segC_len l; unfold segC at this ⊢; rw [List.flatMap_cons, List.length_append, this]; simp; omega
theorem segC_app (l m : List (Nat × Nat)) : segC (l ++ m) = segC l ++ segC m := by unfold segC; rw [List.flatMap_append]
theorem segC_at : ∀ (l : List (Nat × Nat)) (j : Nat) (s : Nat × Nat), l[j]? = some s → (segC l)[2 * j]? = some (.int .i64 (s.1 : Int)) ∧ (segC l)[2 * j + 1]? = some (.int .i64 (s.2 : Int))
  | [], j, s, h => by simp at h
  | x :: l, 0, s, h => by simp at h; subst h; exact ⟨rfl, rfl⟩
  | x :: l, j + 1, s, h => by
    have := segC_at l j s (by simpa using h)
    have e : segC (x :: l) = .int .i64 (x.1 : Int) :: .int .i64 (x.2 : Int) :: segC l := rfl
    rw [e, show 2 * (j + 1) = 2 * j + 1 + 1 by omega, show 2 * j + 1 + 1 + 1 = (2 * j + 1) + 1 + 1 by omega]
    simpa using this
theorem own_keep {w w' : World} {base size n : Nat} {e : TypeId} {v : Value} {xs : List Value} (h : w.ownsRow base e size v n xs) (hk : ∀ k, v.ownBlock = some k → k < w.heap.size → w'.heap[k]? = w.heap[k]?) : w'.ownsRow base e size v n xs := by
  refine ⟨h.1, ?_⟩
  rcases h.2 with h' | ⟨g, cap, cur, a, b, c, d⟩
  · exact .inl h'
  · exact .inr ⟨g, cap, cur, a, b, (hk g (by rw [a]; rfl) (Array.getElem?_eq_some_iff.1 c).1).trans c, d⟩
end Go.Proofs.YtgcbmjflodgnbaaGreatDoor
namespace Go.Proofs.YtgcbmjflodgnbaaGreatDoor
set_option maxRecDepth 100000
set_option linter.unusedVariables false
open Go Go.RowKit

theorem heap_setCells (b : Nat) (T : TypeId) : ∀ (vs P R : List Value) (w : World), w.heap[b]? = some (.cells (P ++ R).toArray T (0, 0)) → vs.length ≤ R.length →
    (w.setCells b P.length vs).heap[b]? = some (.cells (P ++ vs ++ R.drop vs.length).toArray T (0, 0))
  | [], P, R, w, h, _ => by simpa [World.setCells] using h
  | v :: vs, P, R, w, h, hl => by
    cases R with
    | nil => simp at hl
    | cons x R =>
      rw [World.setCells]
      have h1 : (w.setCell ⟨b, P.length, none⟩ v).heap[b]? = some (.cells ((P ++ [v]) ++ R).toArray T (0, 0)) := by
        rw [heap_setCell_same _ _ _ _ _ _ h, List.setIfInBounds_toArray, List.set_append_right _ _ (Nat.le_refl _), Nat.sub_self, List.set_cons_zero, List.append_assoc]; rfl
      have := heap_setCells b T vs (P ++ [v]) R _ h1 (by simpa using hl)
      rw [List.length_append, List.length_singleton] at this
      rw [this, List.length_cons, List.drop_succ_cons, List.append_assoc P [v] vs]; rfl
theorem upd_setCells (b : Nat) (vs : List Value) (o : Nat) (w : World) : Upd [b] w (w.setCells b o vs) := by
  induction vs generalizing o w with
  | nil => exact Upd.refl _ _
  | cons v vs ih => exact ((Upd.refl [b] w).setCell (p := ⟨b, o, none⟩) (by simp) v).trans (ih (o + 1) _)
theorem size_setCells (b : Nat) (vs : List Value) (o : Nat) (w : World) : (w.setCells b o vs).heap.size = w.heap.size := by
  induction vs generalizing o w with
  | nil => rfl
  | cons v vs ih => rw [World.setCells, ih]; simp
/-- append where there is room: the world behind it. -/
theorem append_room {P : Program} {t e ty T : TypeId} {i : TypeInfo} (ht : P.underlying t = some (.slice e)) (hi : P.info? e = some i) (hsz : i.size = 1)
    {w : World} {g cap n m c : Nat} {a : Addr} {xs news R : List Value} (hg : w.heap[g]? = some (.cells (xs ++ R).toArray T (0, 0))) (hn : xs.length = n) (hm : news.length = m)
    (hnews : ∀ j u, news[j]? = some u → w.cell? (a.add j) = some u) (h1 : ∀ u ∈ news, u.oneCell' = true) (hroom : n + m ≤ cap) (hR : m ≤ R.length) :
    (Builtin.append_ #[t, t] ty #[.slice (some ⟨g, 0, none⟩) n cap, .slice (some a) m c]).run P w = .ok (.slice (some ⟨g, 0, none⟩) (n + m) cap) (w.setCells g n news) ∧
      (w.setCells g n news).heap[g]? = some (.cells (xs ++ news ++ R.drop m).toArray T (0, 0)) := by
  subst hn hm
  have h := run_append_room_cells (P := P) (w := w) t ty e i ht hi g 0 xs.length cap a news.length c news (by rw [hsz, Nat.mul_one]) hnews h1 hroom (fun j hj => by
    rw [hsz, Nat.zero_add, Nat.mul_one, cell_of_row _ _ _ _ _ _ hg, List.getElem?_toArray, List.getElem?_append_right (by omega), List.getElem?_eq_getElem (by omega)]; rfl) (fun j hj => frozen_of_row _ _ _ _ _ hg)
  rw [hsz, Nat.zero_add, Nat.mul_one] at h
  exact ⟨h, heap_setCells g T news xs R w hg hR⟩
/-- make of l ones, with room for c. -/
theorem make_room {P : Program} {t e : TypeId} {z : Value} {by_ : Nat} (ht : P.underlying t = some (.slice e)) (hinfo : (P.info? e).map (fun i => (i.zero, i.size, i.bytes)) = some (some z, 1, by_)) (hz : z.cells = #[z])
    (l c : Nat) (hlc : l ≤ c) (hc : c ≤ 1000000) (hby : by_ ≤ 16) (x y : Int) (hx : x = l) (hy : y = c) (w : World) :
    (Instr.makeSlice t (.int .i64 x) (.int .i64 y)).run P w = .ok (.slice (some ⟨w.heap.size, 0, none⟩) l c) (w.alloc (.cells (List.replicate c z).toArray e)) := by
  subst hx hy
  obtain ⟨i0, hi, hz0, hz1, hz2⟩ := info_parts hinfo
  have hb : (by_ : Int) * c ≤ 281474976710656 := by
    have : by_ * c ≤ 16 * 1000000 := Nat.mul_le_mul hby hc
    omega
  have h := run_make (P := P) w t e i0 z ht hi hz0 .i64 .i64 l c (by omega) (by omega) (by rw [hz2]; exact hb) (by omega)
  rw [h, hz1, Int.toNat_natCast, Int.toNat_natCast, Nat.mul_one, hz]
  congr 3
  apply Array.ext
  · simp [madeCells]
  · intro i h1 h2
    simp [madeCells, Nat.mod_one]
/-- append by an equation of its run. -/
theorem wpList_append_run {P : Program} {w w' : World} {ops : Array Oper} {rest : List Oper} {o : Oper} {a : Act} {Q : Exit → Act → World → Prop} (hg : o.guard = none) (s x : Operand) (t : TypeId)
    (hop : o.op = Op.call { callee := Callee.builtin Builtin.append, args := #[s, x], argTypes := #[t, t] }) {v1 v2 v : Value} (hs : a.eval s = v1) (hx : a.eval x = v2)
    (hrun : (Builtin.append_ #[t, t] o.type #[v1, v2]).run P w = .ok v w') (hK : wpList P ops Q rest (a.put o.dst v) w') : wpList P ops Q (o :: rest) a w := by
  refine wpList_plain hg fun K hK' => ?_
  unfold Oper.wp
  simp [execOp, hop, resolve, invoke, builtin, hs, hx, hrun, Result.andThen]
  exact hK' _ _ hK
/-- append of one to a row of the call's own, as the walk meets it: the one lies in a new block; what lies below B stands. -/
theorem wpList_append1 {P : Program} {w w0 : World} {ops : Array Oper} {rest : List Oper} {o : Oper} {a : Act} {Q : Exit → Act → World → Prop} (hgd : o.guard = none) (s x : Operand) (t : TypeId)
    (ho : o.op = .call { callee := .builtin .append, args := #[s, x], argTypes := #[t, t] })
    (B : Nat) (e : TypeId) (z : Value) (by_ : Nat) (ht : P.underlying t = some (.slice e)) (hi : (P.info? e).map (fun i => (i.zero, i.size, i.bytes)) = some (some z, 1, by_)) (hz : z.cells.size = 1)
    (v : Value) (n : Nat) (xs : List Value) (hs : a.eval s = v) (hown : w.ownsRow B e 1 v n xs) (hb : Below B w0 w) (hB : B ≤ w.heap.size)
    (y : Value) (hx : a.eval x = .slice (some ⟨w.heap.size, 0, none⟩) 1 1) (h1 : y.oneCell' = true) (hn : n ≤ 1000000000) (hby : by_ ≤ 16)
    (h : ∀ v' w', w'.ownsRow B e 1 v' (n + 1) (xs ++ [y]) → Below B w0 w' → B ≤ w'.heap.size → (w.alloc (.cells #[y] e)).grownBy w' v.ownBlock → v' ≠ .slice none 0 0 → wpList P ops Q rest (a.put o.dst v') w') :
    wpList P ops Q (o :: rest) a (w.alloc (.cells #[y] e)) := by
  obtain ⟨i0, hi0, hz0, hz1, hz2⟩ := info_parts hi
  refine wpList_append_own _ hgd s x t ho B e i0 z 1 by_ ht hi0 hz0 hz1 hz2 hz (by decide) v n xs hs (hown.alloc _) ⟨w.heap.size, 0, none⟩ 1 1 [y] hx rfl ?_ ?_ ?_ ?_ ?_ ?_
  · intro j u hj
    match j, hj with
    | 0, hj => simp at hj; subst hj; simp [Addr.add]
  · intro u hu; simp at hu; subst hu; exact h1
  · unfold maxLen; omega
  · have : (n + 1) * by_ ≤ (n + 1) * 16 := Nat.mul_le_mul (Nat.le_refl _) hby
    omega
  · simp; omega
  · intro v' w' ho' hg' hnil
    have hlo := hown.lt
    have hbel := (hb.alloc hB (.cells #[y] e)).grown hg' (by simp; omega) (fun t ht => (hlo t ht).1)
    have hs' := hg'.size
    rw [World.size_alloc] at hs'
    exact h v' w' ho' hbel (by omega) hg' (fun e => absurd (hnil.1 e).2 (by decide))
/-- A row of the call's own: its cells. -/
theorem owned_cells {w : World} {base n : Nat} {e : TypeId} {v : Value} {xs : List Value} (h : w.ownsRow base e 1 v n xs) (hn : v ≠ .slice none 0 0) :
    ∃ g cap, v = .slice (some ⟨g, 0, none⟩) n cap ∧ base ≤ g ∧ (∀ j u, xs[j]? = some u → w.cell? ⟨g, j, none⟩ = some u) ∧ g < w.heap.size ∧ n ≤ cap := by
  have hc := fun g hg => h.cells (g := g) hg
  rcases h.2 with ⟨rfl, rfl⟩ | ⟨g, cap, cur, rfl, hbg, hg, hnc, _⟩
  · exact absurd rfl hn
  · refine ⟨g, cap, rfl, hbg, fun j u hu => ?_, (Array.getElem?_eq_some_iff.1 hg).1, hnc⟩
    have := hc g rfl j u hu
    rwa [show ((⟨g, 0, none⟩ : Addr).add j) = ⟨g, j, none⟩ from by unfold Addr.add; split <;> simp_all] at this
/-- string(b), from any cells. -/
theorem run_str_at (P : Program) (w : World) (b off cap : Nat) (l : List UInt8) (src dst e : TypeId) (n : Nat) (hn : l.length = n)
    (hs : P.underlying src = some (.slice e)) (he : P.underlying e = some (.int .u8)) (hd : P.underlying dst = some .string)
    (hg : ∀ j u, l[j]? = some u → w.cell? ⟨b, off + j, none⟩ = some (.int .u8 (u.toNat : Int))) :
    (convert src dst (.slice (some ⟨b, off, none⟩) n cap)).run P w = .ok (.string ⟨l.toArray⟩) w := by
  subst hn
  rw [run_convert_bytes_string w src dst e _ _ _ hs he hd]
  have h := run_loadCells_list (P := P) (w := w) ⟨b, off, none⟩ ((l.map fun u => (u.toNat : Int)).map (Value.int .u8)) (by
    intro j v hj
    have : (⟨b, off, none⟩ : Addr).add j = ⟨b, off + j, none⟩ := by unfold Addr.add; split <;> simp_all
    rw [this]
    rw [List.getElem?_map, List.getElem?_map] at hj
    cases hl : l[j]? with
    | none => rw [hl] at hj; simp at hj
    | some u => rw [hl] at hj; simp at hj; subst hj; exact hg j u hl)
  rw [List.length_map, List.length_map] at h
  rw [run_bytesToString w _ _ _ _ h]
  have : ∀ (l : List UInt8) (acc : ByteArray), (l.map fun u => (u.toNat : Int)).foldl (fun r n => r.push (UInt8.ofNat n.toNat)) acc = ⟨(acc.data.toList ++ l).toArray⟩ := by
    intro l
    induction l with
    | nil => intro acc; simp
    | cons c l ih => intro acc; simp only [List.map_cons, List.foldl_cons]; rw [ih]; simp [ByteArray.push]
  rw [this]
  rfl
/-- An aggregate built, under a name. -/
theorem wpList_built {P : Program} {ops : Array Oper} {rest : List Oper} {o : Oper} {a : Act} {w : World} {Q : Exit → Act → World → Prop} (hg : o.guard = none) (t : TypeId) (parts : Array (Nat × Operand)) (ho : o.op = .build t parts)
    (cs : Array Value) (hf : P.built t (parts.map fun (i, x) => (i, a.eval x)).toList = some cs) (h : wpList P ops Q rest (a.put o.dst (.agg cs)) w) : wpList P ops Q (o :: rest) a w :=
  wpList_build hg t parts ho (by rw [hf]; rfl) (by rw [hf]; exact h)
def byv (u : UInt8) : Value := .int .u8 (u.toNat : Int)
theorem run_str_owned {P : Program} {w : World} {base n : Nat} {e src dst : TypeId} {v : Value} {l : List UInt8} (h : w.ownsRow base e 1 v n (l.map byv)) (hn : v ≠ .slice none 0 0)
    (hs : P.underlying src = some (.slice e)) (he : P.underlying e = some (.int .u8)) (hd : P.underlying dst = some .string) : (convert src dst v).run P w = .ok (.string ⟨l.toArray⟩) w := by
  have hl := h.1
  rw [List.length_map, Nat.mul_one] at hl
  obtain ⟨g, cap, rfl, _, hc, _, _⟩ := owned_cells h hn
  exact run_str_at P w g 0 cap l src dst e n hl hs he hd (fun j u hj => by rw [Nat.zero_add]; exact hc j _ (by rw [List.getElem?_map, hj]; rfl))
end Go.Proofs.YtgcbmjflodgnbaaGreatDoor
namespace Go.Proofs.YtgcbmjflodgnbaaGreatDoor
set_option maxRecDepth 100000
set_option linter.unusedVariables false
open Go Go.RowKit

/-- The slice v of n elements of one cell each lies in a row of the call's own, whose first cells are xs; of the cells none is frozen (a mark behind them may be). -/
def Own (w : World) (base : Nat) (e : TypeId) (v : Value) (n : Nat) (xs : List Value) : Prop :=
  xs.length = n ∧ ((v = .slice none 0 0 ∧ n = 0) ∨
    ∃ (g cap : Nat) (cur : Array Value) (fr : Nat × Nat), v = .slice (some ⟨g, 0, none⟩) n cap ∧ base ≤ g ∧ w.heap[g]? = some (.cells cur e fr) ∧ n ≤ cap ∧ cap ≤ maxLen ∧ cur.size = cap ∧ cur.toList.take n = xs ∧ (fr.2 = 0 ∨ cap ≤ fr.1))
theorem Own.nil (w : World) (base : Nat) (e : TypeId) : Own w base e (.slice none 0 0) 0 [] := ⟨rfl, .inl ⟨rfl, rfl⟩⟩
theorem Own.of {w : World} {base : Nat} {e : TypeId} {v : Value} {n : Nat} {xs : List Value} (h : w.ownsRow base e 1 v n xs) : Own w base e v n xs := by
  refine ⟨by simpa using h.1, ?_⟩
  rcases h.2 with ⟨a, b⟩ | ⟨g, cap, cur, a, b, c, d, e', f, k⟩
  · exact .inl ⟨a, b⟩
  · exact .inr ⟨g, cap, cur, (0, 0), a, b, c, d, e', by simpa using f, by simpa using k, .inl rfl⟩
theorem Own.made (w : World) (e : TypeId) (cur : Array Value) (cap base : Nat) (hb : base ≤ w.heap.size) (hm : cap ≤ maxLen) (hs : cur.size = cap) :
    Own (w.alloc (.cells cur e)) base e (.slice (some ⟨w.heap.size, 0, none⟩) 0 cap) 0 [] :=
  ⟨rfl, .inr ⟨w.heap.size, cap, cur, (0, 0), rfl, hb, heap_alloc_new w _, Nat.zero_le _, hm, hs, rfl, .inl rfl⟩⟩
theorem Own.lt {w : World} {base : Nat} {e : TypeId} {v : Value} {n : Nat} {xs : List Value} (h : Own w base e v n xs) : ∀ k, v.ownBlock = some k → base ≤ k ∧ k < w.heap.size := by
  intro k hk
  rcases h.2 with ⟨rfl, _⟩ | ⟨g, cap, cur, fr, rfl, hb, hg, _⟩
  · simp [Value.ownBlock] at hk
  · simp [Value.ownBlock] at hk
    subst hk
    exact ⟨hb, (Array.getElem?_eq_some_iff.1 hg).1⟩
/-- It stays where its block stays. -/
theorem Own.keep {w w' : World} {base : Nat} {e : TypeId} {v : Value} {n : Nat} {xs : List Value} (h : Own w base e v n xs) (hk : ∀ k, v.ownBlock = some k → w'.heap[k]? = w.heap[k]?) : Own w' base e v n xs := by
  refine ⟨h.1, ?_⟩
  rcases h.2 with ⟨a, b⟩ | ⟨g, cap, cur, fr, rfl, b, c, d⟩
  · exact .inl ⟨a, b⟩
  · exact .inr ⟨g, cap, cur, fr, rfl, b, (hk g rfl).trans c, d⟩
theorem Own.alloc {w : World} {base : Nat} {e : TypeId} {v : Value} {n : Nat} {xs : List Value} (h : Own w base e v n xs) (o : Obj) : Own (w.alloc o) base e v n xs :=
  h.keep fun k hk => heap_alloc_old _ _ (h.lt k hk).2
theorem Own.drew {w : World} {base : Nat} {e : TypeId} {v : Value} {n : Nat} {xs : List Value} (h : Own w base e v n xs) : Own w.drew base e v n xs := h.keep fun _ _ => rfl
theorem Own.drewN {w : World} {base : Nat} {e : TypeId} {v : Value} {n : Nat} {xs : List Value} (h : Own w base e v n xs) (k : Nat) : Own (w.drewN k) base e v n xs := h.keep fun _ _ => rfl
theorem Own.below {w w' : World} {base : Nat} {e : TypeId} {v : Value} {n : Nat} {xs : List Value} (h : Own w base e v n xs) (hb : Below w.heap.size w w') : Own w' base e v n xs :=
  h.keep fun k hk => hb.block k (h.lt k hk).2
theorem Own.cells {w : World} {base n : Nat} {e : TypeId} {v : Value} {xs : List Value} (h : Own w base e v n xs) (hn : v ≠ .slice none 0 0) :
    ∃ g cap, v = .slice (some ⟨g, 0, none⟩) n cap ∧ base ≤ g ∧ (∀ j u, xs[j]? = some u → w.cell? ⟨g, j, none⟩ = some u) ∧ g < w.heap.size ∧ n ≤ cap := by
  rcases h.2 with ⟨rfl, rfl⟩ | ⟨g, cap, cur, fr, rfl, hbg, hg, hnc, hm, hcs, htake, _⟩
  · exact absurd rfl hn
  · refine ⟨g, cap, rfl, hbg, fun j u hu => ?_, (Array.getElem?_eq_some_iff.1 hg).1, hnc⟩
    rw [cell_of_row _ _ _ _ _ _ hg]
    rw [← htake, List.getElem?_take] at hu
    split at hu
    · simpa using hu
    · cases hu
/-- append of m ones, that lie anywhere. -/
theorem run_append_Own {P : Program} (w : World) (base : Nat) (t ty e : TypeId) (z : Value) (by_ : Nat) (ht : P.underlying t = some (.slice e)) (hi : (P.info? e).map (fun i => (i.zero, i.size, i.bytes)) = some (some z, 1, by_)) (hz : z.cells.size = 1)
    (v : Value) (n : Nat) (xs : List Value) (hown : Own w base e v n xs) (a : Addr) (m c : Nat) (news : List Value) (hl : news.length = m) (hnews : ∀ j u, news[j]? = some u → w.cell? (a.add j) = some u) (h1 : ∀ u ∈ news, u.oneCell' = true)
    (hm : 0 < m) (hn : n + m ≤ 1000000000) (hby : by_ ≤ 16) (hbase : base ≤ w.heap.size) :
    ∃ v' w', (Builtin.append_ #[t, t] ty #[v, .slice (some a) m c]).run P w = .ok v' w' ∧ Own w' base e v' (n + m) (xs ++ news) ∧ w.grownBy w' v.ownBlock ∧ v' ≠ .slice none 0 0 := by
  obtain ⟨i0, hi0, hz0, hz1, hz2⟩ := info_parts hi
  have hlen : (xs ++ news).length = n + m := by rw [List.length_append, hown.1, hl]
  have hbytes : (n + m) * by_ ≤ 140737488355328 := by
    have : (n + m) * by_ ≤ (n + m) * 16 := Nat.mul_le_mul (Nat.le_refl _) hby
    omega
  have h63 : n + m ≤ maxLen := by unfold maxLen; omega
  rcases hown.2 with ⟨rfl, rfl⟩ | ⟨g, cap, cur, fr, rfl, hbg, hg, hnc, hcm, hcs, htake, hfr⟩
  · have hx : xs = [] := List.eq_nil_of_length_eq_zero hown.1
    subst hx
    obtain ⟨v', w', r1, r2, r3, r4⟩ := run_append_own (P := P) w base t ty e i0 z 1 by_ ht hi0 hz0 hz1 hz2 hz (by decide) (.slice none 0 0) 0 [] (World.ownsRow_nil _ _ _ _) a m c news (by rw [hl, Nat.mul_one]) hnews h1 h63 hbytes hbase
    exact ⟨v', w', r1, Own.of r2, r3, fun e => by have := (r4.1 e).2; omega⟩
  · by_cases hroom : n + m ≤ cap
    · have hr := run_append_room_cells (P := P) (w := w) t ty e i0 ht hi0 g 0 n cap a m c news (by rw [hl, hz1, Nat.mul_one]) hnews h1 hroom (fun j hj => by
        rw [hz1, Nat.zero_add, Nat.mul_one, cell_of_row _ _ _ _ _ _ hg, Array.getElem?_eq_getElem (by omega)]; rfl) (fun j hj => by
        rw [hz1, Nat.zero_add, Nat.mul_one]
        simp only [World.frozen?, hg]
        rcases hfr with hfr | hfr
        · rw [hfr]; simp
        · have : ¬ fr.1 ≤ n + j := by omega
          simp [this])
      rw [hz1, Nat.zero_add, Nat.mul_one] at hr
      have hset : ∀ (vs : List Value) (o : Nat) (W : World) (C : Array Value), W.heap[g]? = some (.cells C e fr) → o + vs.length ≤ C.size → ∃ C', (W.setCells g o vs).heap[g]? = some (.cells C' e fr) ∧ C'.size = C.size ∧ C'.toList.take (o + vs.length) = C.toList.take o ++ vs := by
        intro vs
        induction vs with
        | nil => intro o W C hC _; exact ⟨C, hC, rfl, by simp⟩
        | cons u vs ih =>
          intro o W C hC hle
          rw [List.length_cons] at hle
          obtain ⟨C', q1, q2, q3⟩ := ih (o + 1) (W.setCell ⟨g, o, none⟩ u) (C.setIfInBounds o u) (by rw [heap_set, if_pos rfl, hC]; rfl) (by simp; omega)
          refine ⟨C', q1, by simpa using q2, ?_⟩
          rw [List.length_cons, show o + (vs.length + 1) = o + 1 + vs.length from by omega, q3, Array.toList_setIfInBounds, List.take_succ_eq_append_getElem (by simp; omega), List.take_set_of_le (by omega)]
          simp
      obtain ⟨C', q1, q2, q3⟩ := hset news n w cur hg (by omega)
      refine ⟨_, _, hr, ⟨hlen, .inr ⟨g, cap, C', fr, rfl, hbg, q1, hroom, hcm, q2.trans hcs, ?_, hfr⟩⟩, ⟨?_, ?_, ?_, ?_, ?_⟩, by simp⟩
      · rw [← hl, q3, htake]
      · exact (upd_setCells g news n w).os
      · exact (upd_setCells g news n w).tape
      · exact (upd_setCells g news n w).output
      · exact (upd_setCells g news n w).size
      · intro k hk hne
        exact (upd_setCells g news n w).block k hk (by simp only [List.mem_singleton]; intro e; exact hne (by simp [Value.ownBlock, e]))
    · have holds : ∀ j u, xs[j]? = some u → w.cell? ((⟨g, 0, none⟩ : Addr).add j) = some u := by
        intro j u hu
        rw [show ((⟨g, 0, none⟩ : Addr).add j) = ⟨g, j, none⟩ from by unfold Addr.add; split <;> simp_all, cell_of_row _ _ _ _ _ _ hg]
        rw [← htake, List.getElem?_take] at hu
        split at hu
        · simpa using hu
        · cases hu
      have hr := run_append_grow (P := P) w t ty e i0 z ht hi0 hz0 ⟨g, 0, none⟩ n cap xs (by rw [hz1, Nat.mul_one]; exact hown.1) holds a m c news (by rw [hz1, Nat.mul_one]; exact hl) hnews (by omega) (by omega) (growslice_fits (by omega) (by rw [hz2]; exact hbytes))
      have hge := grownCap_ge w (n + m) cap e
      have hcm' : grownCap w (n + m) cap e ≤ maxLen := grownCap_le_maxLen w (n + m) cap e h63
      refine ⟨_, _, hr, ⟨hlen, .inr ⟨w.heap.size, _, _, (0, 0), rfl, hbase, heap_alloc_new w.drew _, hge, hcm', ?_, ?_, .inl rfl⟩⟩, ⟨rfl, rfl, rfl, by simp, fun k hk _ => heap_alloc_old w.drew _ hk⟩, by simp⟩
      · simp only [Array.size_append, List.size_toArray, size_zeroCells, hz, hown.1, hl]
        omega
      · simp only [Array.toList_append, List.append_assoc]
        rw [← List.append_assoc, ← hlen]
        exact List.take_left
/-- append, as the walk meets it. -/
theorem wpList_app {P : Program} {w w0 : World} {ops : Array Oper} {rest : List Oper} {o : Oper} {a : Act} {Q : Exit → Act → World → Prop} (hgd : o.guard = none) (s x : Operand) (t : TypeId)
    (ho : o.op = .call { callee := .builtin .append, args := #[s, x], argTypes := #[t, t] })
    (B : Nat) (e : TypeId) (z : Value) (by_ : Nat) (ht : P.underlying t = some (.slice e)) (hi : (P.info? e).map (fun i => (i.zero, i.size, i.bytes)) = some (some z, 1, by_)) (hz : z.cells.size = 1)
    (v : Value) (n : Nat) (xs : List Value) (hs : a.eval s = v) (hown : Own w B e v n xs) (hb : Below B w0 w) (hB : B ≤ w.heap.size)
    (ad : Addr) (m c : Nat) (news : List Value) (hx : a.eval x = .slice (some ad) m c) (hl : news.length = m) (hnews : ∀ j u, news[j]? = some u → w.cell? (ad.add j) = some u) (h1 : ∀ u ∈ news, u.oneCell' = true) (hm : 0 < m) (hn : n + m ≤ 1000000000) (hby : by_ ≤ 16)
    (h : ∀ v' w', Own w' B e v' (n + m) (xs ++ news) → Below B w0 w' → B ≤ w'.heap.size → w.grownBy w' v.ownBlock → v' ≠ .slice none 0 0 → wpList P ops Q rest (a.put o.dst v') w') :
    wpList P ops Q (o :: rest) a w := by
  obtain ⟨v', w', r1, r2, r3, r4⟩ := run_append_Own (P := P) w B t o.type e z by_ ht hi hz v n xs hown ad m c news hl hnews h1 hm hn hby hB
  have hlo := hown.lt
  refine wpList_append_run hgd s x t ho hs hx r1 (h v' w' r2 (hb.grown r3 hB (fun t ht => (hlo t ht).1)) (Nat.le_trans hB r3.size) r3 r4)
/-- append of one. -/
theorem wpList_app1 {P : Program} {w w0 : World} {ops : Array Oper} {rest : List Oper} {o : Oper} {a : Act} {Q : Exit → Act → World → Prop} (hgd : o.guard = none) (s x : Operand) (t : TypeId)
    (ho : o.op = .call { callee := .builtin .append, args := #[s, x], argTypes := #[t, t] })
    (B : Nat) (e : TypeId) (z : Value) (by_ : Nat) (ht : P.underlying t = some (.slice e)) (hi : (P.info? e).map (fun i => (i.zero, i.size, i.bytes)) = some (some z, 1, by_)) (hz : z.cells.size = 1)
    (v : Value) (n : Nat) (xs : List Value) (hs : a.eval s = v) (hown : Own w B e v n xs) (hb : Below B w0 w) (hB : B ≤ w.heap.size)
    (g : Nat) (y : Value) (hx : a.eval x = .slice (some ⟨g, 0, none⟩) 1 1) (hy : w.cell? ⟨g, 0, none⟩ = some y) (h1 : y.oneCell' = true) (hn : n + 1 ≤ 1000000000) (hby : by_ ≤ 16)
    (h : ∀ v' w', Own w' B e v' (n + 1) (xs ++ [y]) → Below B w0 w' → B ≤ w'.heap.size → w.grownBy w' v.ownBlock → v' ≠ .slice none 0 0 → wpList P ops Q rest (a.put o.dst v') w') :
    wpList P ops Q (o :: rest) a w :=
  wpList_app hgd s x t ho B e z by_ ht hi hz v n xs hs hown hb hB ⟨g, 0, none⟩ 1 1 [y] hx rfl (fun j u hj => by
    match j, hj with
    | 0, hj => simp at hj; subst hj; simpa [Addr.add] using hy) (fun u hu => by simp at hu; subst hu; exact h1) (by decide) hn hby h
/-- What []byte(s) lays is the call's own. -/
theorem Own.bytes (w : World) (s : ByteArray) (cap base : Nat) (e : TypeId) (hb : base ≤ w.heap.size) (hc : s.size ≤ cap) (hm : cap ≤ maxLen) :
    Own (w.alloc (.cells (bytesRow s cap) e ((bytesRow s cap).size, (bytesRow s cap).size + 1))) base e (.slice (some ⟨w.heap.size, 0, none⟩) s.size cap) s.size (s.data.toList.map byv) := by
  have hs : (bytesRow s cap).size = cap := by
    unfold bytesRow
    rw [Array.size_append, Array.size_map, Array.size_replicate]
    have : s.data.size = s.size := rfl
    omega
  refine ⟨by simp, .inr ⟨w.heap.size, cap, _, _, rfl, hb, heap_alloc_new w _, hc, hm, hs, ?_, .inr (by rw [hs]; exact Nat.le_refl _)⟩⟩
  unfold bytesRow
  rw [Array.toList_append, Array.toList_map]
  have : (s.data.toList.map fun b => Value.int .u8 b.toNat).length = s.size := by simp
  rw [← this]
  exact List.take_left
/-- []byte(s), its run. -/
theorem run_tobytes {P : Program} (src dst e : TypeId) (s : ByteArray) (hs : P.underlying src = some .string) (hd : P.underlying dst = some (.slice e)) (he : P.underlying e = some (.int .u8)) (hl : s.size ≤ 1000000000) (base : Nat) (w : World) (hb : base ≤ w.heap.size) :
    ∃ cap C fr, (convert src dst (.string s)).run P w = .ok (.slice (some ⟨w.heap.size, 0, none⟩) s.size cap) (w.alloc (.cells C e fr)).drew ∧
      Own (w.alloc (.cells C e fr)) base e (.slice (some ⟨w.heap.size, 0, none⟩) s.size cap) s.size (s.data.toList.map byv) :=
  ⟨_, _, _, run_bytes_of_string w src dst e s hs hd he, Own.bytes w s _ base e hb (grownCap_ge w s.size 0 e) (grownCap_le_maxLen w s.size 0 e (by unfold maxLen; omega))⟩
/-- string(b) of such a row. -/
theorem run_str_Own {P : Program} {w : World} {base n : Nat} {e src dst : TypeId} {v : Value} {l : List UInt8} (h : Own w base e v n (l.map byv)) (hn : v ≠ .slice none 0 0)
    (hs : P.underlying src = some (.slice e)) (he : P.underlying e = some (.int .u8)) (hd : P.underlying dst = some .string) : (convert src dst v).run P w = .ok (.string ⟨l.toArray⟩) w := by
  have hl := h.1
  rw [List.length_map] at hl
  obtain ⟨g, cap, rfl, _, hc, _, _⟩ := h.cells hn
  exact run_str_at P w g 0 cap l src dst e n hl hs he hd (fun j u hj => by rw [Nat.zero_add]; exact hc j _ (by rw [List.getElem?_map, hj]; rfl))
theorem bdrewN {B : Nat} {a w : World} (h : Below B a w) (n : Nat) : Below B a (w.drewN n) := ⟨h.os, h.tape, h.output, h.size, h.block⟩
theorem cell_new (w : World) (y : Value) (e : TypeId) : (w.alloc (.cells #[y] e)).cell? ⟨w.heap.size, 0, none⟩ = some y :=
  cell_of_row _ _ 0 _ _ _ (heap_alloc_new _ _)
end Go.Proofs.YtgcbmjflodgnbaaGreatDoor
namespace Go.Proofs.YtgcbmjflodgnbaaGreatDoor
set_option maxRecDepth 100000
set_option linter.unusedVariables false
open Go Go.RowKit

/-- append onto a row of the call's own: where the answer lies. -/
theorem run_append_fresh {P : Program} (w : World) (t ty e : TypeId) (i : TypeInfo) (z : Value) (size bytes : Nat) (ht : P.underlying t = some (.slice e)) (hi : P.info? e = some i) (hz : i.zero = some z)
    (hsize : i.size = size) (hby : i.bytes = bytes) (hzs : z.cells.size = size) (hsz : 0 < size)
    (v : Value) (n : Nat) (xs : List Value) (hown : w.ownsRow 0 e size v n xs)
    (a : Addr) (m c : Nat) (news : List Value) (hl : news.length = m * size) (hnews : ∀ j u, news[j]? = some u → w.cell? (a.add j) = some u) (h1 : ∀ u ∈ news, u.oneCell' = true)
    (hm : 0 < m) (h63 : n + m ≤ 1000000) (hbytes : bytes ≤ 1000) :
    ∃ v' w', (Builtin.append_ #[t, t] ty #[v, .slice (some a) m c]).run P w = .ok v' w' ∧ w'.ownsRow 0 e size v' (n + m) (xs ++ news) ∧ w.grownBy w' v.ownBlock ∧
      (∃ k, v'.ownBlock = some k ∧ (v.ownBlock = some k ∨ w.heap.size ≤ k)) := by
  have hb2 : (n + m) * bytes ≤ 140737488355328 := Nat.le_trans (Nat.mul_le_mul h63 hbytes) (by decide)
  have hx : n + m ≤ maxLen := by unfold maxLen; omega
  obtain ⟨v', w', r1, r2, r3, r4⟩ := run_append_own (P := P) w 0 t ty e i z size bytes ht hi hz hsize hby hzs hsz v n xs hown a m c news hl hnews h1 hx hb2 (Nat.zero_le _)
  refine ⟨v', w', r1, r2, r3, ?_⟩
  have hn : ∃ k, v'.ownBlock = some k := by
    rcases r2.2 with ⟨_, h⟩ | ⟨g, cap, cur, h, _⟩
    · omega
    · exact ⟨g, by rw [h]; rfl⟩
  obtain ⟨k, hk⟩ := hn
  refine ⟨k, hk, ?_⟩
  rcases hown.2 with ⟨rfl, rfl⟩ | ⟨g, cap, cur, rfl, hbg, hg, hnc, hcm, hcs, htake⟩
  · have hxs : xs = [] := List.eq_nil_of_length_eq_zero (by simpa using hown.1)
    subst hxs
    obtain ⟨v2, w2, q1, q2, _, _⟩ := run_append_own (P := P) w w.heap.size t ty e i z size bytes ht hi hz hsize hby hzs hsz (.slice none 0 0) 0 [] (World.ownsRow_nil _ _ _ _) a m c news hl hnews h1 hx hb2 (Nat.le_refl _)
    rw [r1] at q1
    cases q1
    exact .inr (q2.lt k hk).1
  · by_cases hroom : n + m ≤ cap
    · have hr := run_append_room (P := P) w t ty e i ht hi g n cap cur hg a m c news (by rw [hl, hsize]) hnews h1 hroom (by rw [hl, hcs, hsize, ← Nat.add_mul]; exact Nat.mul_le_mul_right _ hroom)
      rw [r1] at hr
      cases hr
      exact .inl hk
    · have hr := run_append_grow (P := P) w t ty e i z ht hi hz ⟨g, 0, none⟩ n cap xs (by rw [hsize]; exact hown.1) (hown.cells (g := g) rfl) a m c news (by rw [hsize]; exact hl) hnews (by omega) (by omega) (growslice_fits (by omega) (by rw [hby]; exact hb2))
      rw [r1] at hr
      cases hr
      simp [Value.ownBlock] at hk
      exact .inr (by omega)

/-- What may change behind a call of a log. -/
def fp (g : Nat) (v : Value) (p bb cb : Nat) : List Nat := g :: p :: bb :: cb :: v.ownBlock.toList
/-- All blocks of a log are apart. -/
structure Lap (g q p bb cb : Nat) (v : Value) : Prop where
  hq : q ∉ [g, p, bb, cb]
  hg : g ∉ [p, bb, cb]
  hv : ∀ k, v.ownBlock = some k → k ∉ [g, q, p, bb, cb]
theorem Lap.nm {g q p bb cb : Nat} {v : Value} (h : Lap g q p bb cb v) : p ≠ g ∧ bb ≠ g ∧ cb ≠ g ∧ q ≠ g ∧ q ≠ p ∧ q ≠ bb ∧ q ≠ cb := by
  have h1 := h.hq; have h2 := h.hg
  simp only [List.mem_cons, List.not_mem_nil, or_false, not_or] at h1 h2
  refine ⟨?_, ?_, ?_, ?_, ?_, ?_, ?_⟩ <;> omega
end Go.Proofs.YtgcbmjflodgnbaaGreatDoor
namespace Go.Proofs.YtgcbmjflodgnbaaGreatDoor
set_option maxRecDepth 100000
set_option linter.unusedVariables false
open Go Go.RowKit

end Go.Proofs.YtgcbmjflodgnbaaGreatDoor
