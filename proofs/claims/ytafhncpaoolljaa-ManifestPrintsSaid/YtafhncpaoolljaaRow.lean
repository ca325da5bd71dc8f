/- Rows of the call's own: made, appended to where there is room, as worlds that are known. -/
import Derived.Test.YtafhncpaoolljaaMem
import Derived.ArgAppend
import Derived.Laws.MakeOwn
import Derived.Laws.IdiomCopy
import Derived.Deep.Upon
import Derived.OwnWalk
namespace Go.Proofs.Ytafhncpaoolljaa
set_option maxRecDepth 100000
set_option linter.unusedVariables false
open Go Go.RowKit

theorem heap_setCells (b : Nat) (T : TypeId) : ∀ (vs P R : List Value) (w : World), w.heap[b]? = some (.cells (P ++ R).toArray T (0, 0)) → vs.length ≤ R.length →
    (w.setCells b P.length vs).heap[b]? = some (.cells (P ++ vs ++ R.drop vs.length).toArray T (0, 0))
  | [], P, R, w, h, _ => by simpa [World.setCells] using h
  | v :: vs, P, R, w, h, hl => by
    cases R with
    | nil => simp at hl
    | cons x R =>
      rw [World.setCells]
      have h1 : (w.setCell ⟨b, P.length, none⟩ v).heap[b]? = some (.cells ((P ++ [v]) ++ R).toArray T (0, 0)) := by
        rw [heap_setCell_same _ _ _ _ _ _ h, List.setIfInBounds_toArray, List.set_append_right _ _ (Nat.le_refl _), Nat.sub_self, List.set_cons_zero, List.append_assoc]; rfl
      have := heap_setCells b T vs (P ++ [v]) R _ h1 (by simpa using hl)
      rw [List.length_append, List.length_singleton] at this
      rw [this, List.length_cons, List.drop_succ_cons, List.append_assoc P [v] vs]; rfl
theorem upd_setCells (b : Nat) (vs : List Value) (o : Nat) (w : World) : Upd [b] w (w.setCells b o vs) := by
  induction vs generalizing o w with
  | nil => exact Upd.refl _ _
  | cons v vs ih => exact ((Upd.refl [b] w).setCell (p := ⟨b, o, none⟩) (by simp) v).trans (ih (o + 1) _)
theorem size_setCells (b : Nat) (vs : List Value) (o : Nat) (w : World) : (w.setCells b o vs).heap.size = w.heap.size := by
  induction vs generalizing o w with
  | nil => rfl
  | cons v vs ih => rw [World.setCells, ih]; simp
/-- append where there is room: the world behind it. -/
theorem append_room {P : Program} {t e ty T : TypeId} {i : TypeInfo} (ht : P.underlying t = some (.slice e)) (hi : P.info? e = some i) (hsz : i.size = 1)
    {w : World} {g cap n m c : Nat} {a : Addr} {xs news R : List Value} (hg : w.heap[g]? = some (.cells (xs ++ R).toArray T (0, 0))) (hn : xs.length = n) (hm : news.length = m)
    (hnews : ∀ j u, news[j]? = some u → w.cell? (a.add j) = some u) (h1 : ∀ u ∈ news, u.oneCell' = true) (hroom : n + m ≤ cap) (hR : m ≤ R.length) :
    (Builtin.append_ #[t, t] ty #[.slice (some ⟨g, 0, none⟩) n cap, .slice (some a) m c]).run P w = .ok (.slice (some ⟨g, 0, none⟩) (n + m) cap) (w.setCells g n news) ∧
      (w.setCells g n news).heap[g]? = some (.cells (xs ++ news ++ R.drop m).toArray T (0, 0)) := by
  subst hn hm
  have h := run_append_room_cells (P := P) (w := w) t ty e i ht hi g 0 xs.length cap a news.length c news (by rw [hsz, Nat.mul_one]) hnews h1 hroom (fun j hj => by
    rw [hsz, Nat.zero_add, Nat.mul_one, cell_of_row _ _ _ _ _ _ hg, List.getElem?_toArray, List.getElem?_append_right (by omega), List.getElem?_eq_getElem (by omega)]; rfl) (fun j hj => frozen_of_row _ _ _ _ _ hg)
  rw [hsz, Nat.zero_add, Nat.mul_one] at h
  exact ⟨h, heap_setCells g T news xs R w hg hR⟩
/-- make of l ones, with room for c. -/
theorem make_room {P : Program} {t e : TypeId} {z : Value} {by_ : Nat} (ht : P.underlying t = some (.slice e)) (hinfo : (P.info? e).map (fun i => (i.zero, i.size, i.bytes)) = some (some z, 1, by_)) (hz : z.cells = #[z])
    (l c : Nat) (hlc : l ≤ c) (hc : c ≤ 1000000) (hby : by_ ≤ 16) (x y : Int) (hx : x = l) (hy : y = c) (w : World) :
    (Instr.makeSlice t (.int .i64 x) (.int .i64 y)).run P w = .ok (.slice (some ⟨w.heap.size, 0, none⟩) l c) (w.alloc (.cells (List.replicate c z).toArray e)) := by
  subst hx hy
  obtain ⟨i0, hi, hz0, hz1, hz2⟩ := info_parts hinfo
  have hb : (by_ : Int) * c ≤ 281474976710656 := by
    have : by_ * c ≤ 16 * 1000000 := Nat.mul_le_mul hby hc
    omega
  have h := run_make (P := P) w t e i0 z ht hi hz0 .i64 .i64 l c (by omega) (by omega) (by rw [hz2]; exact hb) (by omega)
  rw [h, hz1, Int.toNat_natCast, Int.toNat_natCast, Nat.mul_one, hz]
  congr 3
  apply Array.ext
  · simp [madeCells]
  · intro i h1 h2
    simp [madeCells, Nat.mod_one]
/-- append by an equation of its run. -/
theorem wpList_append_run {P : Program} {w w' : World} {ops : Array Oper} {rest : List Oper} {o : Oper} {a : Act} {Q : Exit → Act → World → Prop} (hg : o.guard = none) (s x : Operand) (t : TypeId)
    (hop : o.op = Op.call { callee := Callee.builtin Builtin.append, args := #[s, x], argTypes := #[t, t] }) {v1 v2 v : Value} (hs : a.eval s = v1) (hx : a.eval x = v2)
    (hrun : (Builtin.append_ #[t, t] o.type #[v1, v2]).run P w = .ok v w') (hK : wpList P ops Q rest (a.put o.dst v) w') : wpList P ops Q (o :: rest) a w := by
  refine wpList_plain hg fun K hK' => ?_
  unfold Oper.wp
  simp [execOp, hop, resolve, invoke, builtin, hs, hx, hrun, Result.andThen]
  exact hK' _ _ hK
/-- append of one to a row of the call's own, as the walk meets it: the one lies in a new block; what lies below B stands. -/
theorem wpList_append1 {P : Program} {w w0 : World} {ops : Array Oper} {rest : List Oper} {o : Oper} {a : Act} {Q : Exit → Act → World → Prop} (hgd : o.guard = none) (s x : Operand) (t : TypeId)
    (ho : o.op = .call { callee := .builtin .append, args := #[s, x], argTypes := #[t, t] })
    (B : Nat) (e : TypeId) (z : Value) (by_ : Nat) (ht : P.underlying t = some (.slice e)) (hi : (P.info? e).map (fun i => (i.zero, i.size, i.bytes)) = some (some z, 1, by_)) (hz : z.cells.size = 1)
    (v : Value) (n : Nat) (xs : List Value) (hs : a.eval s = v) (hown : w.ownsRow B e 1 v n xs) (hb : Below B w0 w) (hB : B ≤ w.heap.size)
    (y : Value) (hx : a.eval x = .slice (some ⟨w.heap.size, 0, none⟩) 1 1) (h1 : y.oneCell' = true) (hn : n ≤ 1000000000) (hby : by_ ≤ 16)
    (h : ∀ v' w', w'.ownsRow B e 1 v' (n + 1) (xs ++ [y]) → Below B w0 w' → B ≤ w'.heap.size → (w.alloc (.cells #[y] e)).grownBy w' v.ownBlock → v' ≠ .slice none 0 0 → wpList P ops Q rest (a.put o.dst v') w') :
    wpList P ops Q (o :: rest) a (w.alloc (.cells #[y] e)) := by
  obtain ⟨i0, hi0, hz0, hz1, hz2⟩ := info_parts hi
  refine wpList_append_own _ hgd s x t ho B e i0 z 1 by_ ht hi0 hz0 hz1 hz2 hz (by decide) v n xs hs (hown.alloc _) ⟨w.heap.size, 0, none⟩ 1 1 [y] hx rfl ?_ ?_ ?_ ?_ ?_ ?_
  · intro j u hj
    match j, hj with
    | 0, hj => simp at hj; subst hj; simp [Addr.add]
  · intro u hu; simp at hu; subst hu; exact h1
  · unfold maxLen; omega
  · have : (n + 1) * by_ ≤ (n + 1) * 16 := Nat.mul_le_mul (Nat.le_refl _) hby
    omega
  · simp; omega
  · intro v' w' ho' hg' hnil
    have hlo := hown.lt
    have hbel := (hb.alloc hB (.cells #[y] e)).grown hg' (by simp; omega) (fun t ht => (hlo t ht).1)
    have hs' := hg'.size
    rw [World.size_alloc] at hs'
    exact h v' w' ho' hbel (by omega) hg' (fun e => absurd (hnil.1 e).2 (by decide))
/-- A row of the call's own: its cells. -/
theorem owned_cells {w : World} {base n : Nat} {e : TypeId} {v : Value} {xs : List Value} (h : w.ownsRow base e 1 v n xs) (hn : v ≠ .slice none 0 0) :
    ∃ g cap, v = .slice (some ⟨g, 0, none⟩) n cap ∧ base ≤ g ∧ (∀ j u, xs[j]? = some u → w.cell? ⟨g, j, none⟩ = some u) ∧ g < w.heap.size ∧ n ≤ cap := by
  have hc := fun g hg => h.cells (g := g) hg
  rcases h.2 with ⟨rfl, rfl⟩ | ⟨g, cap, cur, rfl, hbg, hg, hnc, _⟩
  · exact absurd rfl hn
  · refine ⟨g, cap, rfl, hbg, fun j u hu => ?_, (Array.getElem?_eq_some_iff.1 hg).1, hnc⟩
    have := hc g rfl j u hu
    rwa [show ((⟨g, 0, none⟩ : Addr).add j) = ⟨g, j, none⟩ from by unfold Addr.add; split <;> simp_all] at this
/-- string(b), from any cells. -/
theorem run_str_at (P : Program) (w : World) (b off cap : Nat) (l : List UInt8) (src dst e : TypeId) (n : Nat) (hn : l.length = n)
    (hs : P.underlying src = some (.slice e)) (he : P.underlying e = some (.int .u8)) (hd : P.underlying dst = some .string)
    (hg : ∀ j u, l[j]? = some u → w.cell? ⟨b, off + j, none⟩ = some (.int .u8 (u.toNat : Int))) :
    (convert src dst (.slice (some ⟨b, off, none⟩) n cap)).run P w = .ok (.string ⟨l.toArray⟩) w := by
  subst hn
  rw [run_convert_bytes_string w src dst e _ _ _ hs he hd]
  have h := run_loadCells_list (P := P) (w := w) ⟨b, off, none⟩ ((l.map fun u => (u.toNat : Int)).map (Value.int .u8)) (by
    intro j v hj
    have : (⟨b, off, none⟩ : Addr).add j = ⟨b, off + j, none⟩ := by unfold Addr.add; split <;> simp_all
    rw [this]
    rw [List.getElem?_map, List.getElem?_map] at hj
    cases hl : l[j]? with
    | none => rw [hl] at hj; simp at hj
    | some u => rw [hl] at hj; simp at hj; subst hj; exact hg j u hl)
  rw [List.length_map, List.length_map] at h
  rw [run_bytesToString w _ _ _ _ h]
  have : ∀ (l : List UInt8) (acc : ByteArray), (l.map fun u => (u.toNat : Int)).foldl (fun r n => r.push (UInt8.ofNat n.toNat)) acc = ⟨(acc.data.toList ++ l).toArray⟩ := by
    intro l
    induction l with
    | nil => intro acc; simp
    | cons c l ih => intro acc; simp only [List.map_cons, List.foldl_cons]; rw [ih]; simp [ByteArray.push]
  rw [this]
  rfl
/-- An aggregate built, under a name. -/
theorem wpList_built {P : Program} {ops : Array Oper} {rest : List Oper} {o : Oper} {a : Act} {w : World} {Q : Exit → Act → World → Prop} (hg : o.guard = none) (t : TypeId) (parts : Array (Nat × Operand)) (ho : o.op = .build t parts)
    (cs : Array Value) (hf : P.built t (parts.map fun (i, x) => (i, a.eval x)).toList = some cs) (h : wpList P ops Q rest (a.put o.dst (.agg cs)) w) : wpList P ops Q (o :: rest) a w :=
  wpList_build hg t parts ho (by rw [hf]; rfl) (by rw [hf]; exact h)
def byv (u : UInt8) : Value := .int .u8 (u.toNat : Int)
theorem run_str_owned {P : Program} {w : World} {base n : Nat} {e src dst : TypeId} {v : Value} {l : List UInt8} (h : w.ownsRow base e 1 v n (l.map byv)) (hn : v ≠ .slice none 0 0)
    (hs : P.underlying src = some (.slice e)) (he : P.underlying e = some (.int .u8)) (hd : P.underlying dst = some .string) : (convert src dst v).run P w = .ok (.string ⟨l.toArray⟩) w := by
  have hl := h.1
  rw [List.length_map, Nat.mul_one] at hl
  obtain ⟨g, cap, rfl, _, hc, _, _⟩ := owned_cells h hn
  exact run_str_at P w g 0 cap l src dst e n hl hs he hd (fun j u hj => by rw [Nat.zero_add]; exact hc j _ (by rw [List.getElem?_map, hj]; rfl))
end Go.Proofs.Ytafhncpaoolljaa
