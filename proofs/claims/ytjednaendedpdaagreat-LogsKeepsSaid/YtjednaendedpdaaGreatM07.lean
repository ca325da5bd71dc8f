/- Rows of the call's own: made, appended to where there is room, as worlds that are known. Rows of the call's own, marked or not: []byte(s), append, string(b). Nothing of the program. Logs: clean, begin, makes. Logs: makes. Logs: newest, Free, Room, Format. Logs: what always holds of a log: its segments follow one another, each head is a record's. -/
import Derived.Test.YtjednaendedpdaaGreatM01
import Derived.ArgAppend
import Derived.Laws.MakeOwn
import Derived.Laws.IdiomCopy
import Derived.Deep.Upon
import Derived.OwnWalk
import Derived.Laws.IdiomStrings
import Derived.Test.YtjednaendedpdaaGreatM06
import Derived.Deep.DeepCutAuto
import Derived.Deep.CutBlock
import Derived.Test.YtjednaendedpdaaGreatM05
import Derived.Deep.RegionHeld
namespace Go.Proofs.YtjednaendedpdaaGreat
set_option maxRecDepth 100000
set_option linter.unusedVariables false
open Go Go.RowKit

theorem heap_setCells (b : Nat) (T : TypeId) : ∀ (vs P R : List Value) (w : World), w.heap[b]? = some (.cells (P ++ R).toArray T (0, 0)) → vs.length ≤ R.length →
    (w.setCells b P.length vs).heap[b]? = some (.cells (P ++ vs ++ R.drop vs.length).toArray T (0, 0))
  | [], P, R, w, h, _ => by simpa [World.setCells] using h
  | v :: vs, P, R, w, h, hl => by
    cases R with
    | nil => simp at hl
    | cons x R =>
      rw [World.setCells]
      have h1 : (w.setCell ⟨b, P.length, none⟩ v).heap[b]? = some (.cells ((P ++ [v]) ++ R).toArray T (0, 0)) := by
        rw [heap_setCell_same _ _ _ _ _ _ h, List.setIfInBounds_toArray, List.set_append_right _ _ (Nat.le_refl _), Nat.sub_self, List.set_cons_zero, List.append_assoc]; rfl
      have := heap_setCells b T vs (P ++ [v]) R _ h1 (by simpa using hl)
      rw [List.length_append, List.length_singleton] at this
      rw [this, List.length_cons, List.drop_succ_cons, List.append_assoc P [v] vs]; rfl
theorem upd_setCells (b : Nat) (vs : List Value) (o : Nat) (w : World) : Upd [b] w (w.setCells b o vs) := by
  induction vs generalizing o w with
  | nil => exact Upd.refl _ _
  | cons v vs ih => exact ((Upd.refl [b] w).setCell (p := ⟨b, o, none⟩) (by simp) v).trans (ih (o + 1) _)
theorem size_setCells (b : Nat) (vs : List Value) (o : Nat) (w : World) : (w.setCells b o vs).heap.size = w.heap.size := by
  induction vs generalizing o w with
  | nil => rfl
  | cons v vs ih => rw [World.setCells, ih]; simp
/-- append where there is room: the world behind it. -/
theorem append_room {P : Program} {t e ty T : TypeId} {i : TypeInfo} (ht : P.underlying t = some (.slice e)) (hi : P.info? e = some i) (hsz : i.size = 1)
    {w : World} {g cap n m c : Nat} {a : Addr} {xs news R : List Value} (hg : w.heap[g]? = some (.cells (xs ++ R).toArray T (0, 0))) (hn : xs.length = n) (hm : news.length = m)
    (hnews : ∀ j u, news[j]? = some u → w.cell? (a.add j) = some u) (h1 : ∀ u ∈ news, u.oneCell' = true) (hroom : n + m ≤ cap) (hR : m ≤ R.length) :
    (Builtin.append_ #[t, t] ty #[.slice (some ⟨g, 0, none⟩) n cap, .slice (some a) m c]).run P w = .ok (.slice (some ⟨g, 0, none⟩) (n + m) cap) (w.setCells g n news) ∧
      (w.setCells g n news).heap[g]? = some (.cells (xs ++ news ++ R.drop m).toArray T (0, 0)) := by
  subst hn hm
  have h := run_append_room_cells (P := P) (w := w) t ty e i ht hi g 0 xs.length cap a news.length c news (by rw [hsz, Nat.mul_one]) hnews h1 hroom (fun j hj => by
    rw [hsz, Nat.zero_add, Nat.mul_one, cell_of_row _ _ _ _ _ _ hg, List.getElem?_toArray, List.getElem?_append_right (by omega), List.getElem?_eq_getElem (by omega)]; rfl) (fun j hj => frozen_of_row _ _ _ _ _ hg)
  rw [hsz, Nat.zero_add, Nat.mul_one] at h
  exact ⟨h, heap_setCells g T news xs R w hg hR⟩
/-- make of l ones, with room for c. -/
theorem make_room {P : Program} {t e : TypeId} {z : Value} {by_ : Nat} (ht : P.underlying t = some (.slice e)) (hinfo : (P.info? e).map (fun i => (i.zero, i.size, i.bytes)) = some (some z, 1, by_)) (hz : z.cells = #[z])
    (l c : Nat) (hlc : l ≤ c) (hc : c ≤ 1000000) (hby : by_ ≤ 16) (x y : Int) (hx : x = l) (hy : y = c) (w : World) :
    (Instr.makeSlice t (.int .i64 x) (.int .i64 y)).run P w = .ok (.slice (some ⟨w.heap.size, 0, none⟩) l c) (w.alloc (.cells (List.replicate c z).toArray e)) := by
  subst hx hy
  obtain ⟨i0, hi, hz0, hz1, hz2⟩ := info_parts hinfo
  have hb : (by_ : Int) * c ≤ 281474976710656 := by
    have : by_ * c ≤ 16 * 1000000 := Nat.mul_le_mul hby hc
    omega
  have h := run_make (P := P) w t e i0 z ht hi hz0 .i64 .i64 l c (by omega) (by omega) (by rw [hz2]; exact hb) (by omega)
  rw [h, hz1, Int.toNat_natCast, Int.toNat_natCast, Nat.mul_one, hz]
  congr 3
  apply Array.ext
  · simp [madeCells]
  · intro i h1 h2
    simp [madeCells, Nat.mod_one]
/-- append by an equation of its run. -/
theorem wpList_append_run {P : Program} {w w' : World} {ops : Array Oper} {rest : List Oper} {o : Oper} {a : Act} {Q : Exit → Act → World → Prop} (hg : o.guard = none) (s x : Operand) (t : TypeId)
    (hop : o.op = Op.call { callee := Callee.builtin Builtin.append, args := #[s, x], argTypes := #[t, t] }) {v1 v2 v : Value} (hs : a.eval s = v1) (hx : a.eval x = v2)
    (hrun : (Builtin.append_ #[t, t] o.type #[v1, v2]).run P w = .ok v w') (hK : wpList P ops Q rest (a.put o.dst v) w') : wpList P ops Q (o :: rest) a w := by
  refine wpList_plain hg fun K hK' => ?_
  unfold Oper.wp
  simp [execOp, hop, resolve, invoke, builtin, hs, hx, hrun, Result.andThen]
  exact hK' _ _ hK
/-- append of one to a row of the call's own, as the walk meets it: the one lies in a new block; what lies below B stands. -/
theorem wpList_append1 {P : Program} {w w0 : World} {ops : Array Oper} {rest : List Oper} {o : Oper} {a : Act} {Q : Exit → Act → World → Prop} (hgd : o.guard = none) (s x : Operand) (t : TypeId)
    (ho : o.op = .call { callee := .builtin .append, args := #[s, x], argTypes := #[t, t] })
    (B : Nat) (e : TypeId) (z : Value) (by_ : Nat) (ht : P.underlying t = some (.slice e)) (hi : (P.info? e).map (fun i => (i.zero, i.size, i.bytes)) = some (some z, 1, by_)) (hz : z.cells.size = 1)
    (v : Value) (n : Nat) (xs : List Value) (hs : a.eval s = v) (hown : w.ownsRow B e 1 v n xs) (hb : Below B w0 w) (hB : B ≤ w.heap.size)
    (y : Value) (hx : a.eval x = .slice (some ⟨w.heap.size, 0, none⟩) 1 1) (h1 : y.oneCell' = true) (hn : n ≤ 1000000000) (hby : by_ ≤ 16)
    (h : ∀ v' w', w'.ownsRow B e 1 v' (n + 1) (xs ++ [y]) → Below B w0 w' → B ≤ w'.heap.size → (w.alloc (.cells #[y] e)).grownBy w' v.ownBlock → v' ≠ .slice none 0 0 → wpList P ops Q rest (a.put o.dst v') w') :
    wpList P ops Q (o :: rest) a (w.alloc (.cells #[y] e)) := by
  obtain ⟨i0, hi0, hz0, hz1, hz2⟩ := info_parts hi
  refine wpList_append_own _ hgd s x t ho B e i0 z 1 by_ ht hi0 hz0 hz1 hz2 hz (by decide) v n xs hs (hown.alloc _) ⟨w.heap.size, 0, none⟩ 1 1 [y] hx rfl ?_ ?_ ?_ ?_ ?_ ?_
  · intro j u hj
    match j, hj with
    | 0, hj => simp at hj; subst hj; simp [Addr.add]
  · intro u hu; simp at hu; subst hu; exact h1
  · unfold maxLen; omega
  · have : (n + 1) * by_ ≤ (n + 1) * 16 := Nat.mul_le_mul (Nat.le_refl _) hby
    omega
  · simp; omega
  · intro v' w' ho' hg' hnil
    have hlo := hown.lt
    have hbel := (hb.alloc hB (.cells #[y] e)).grown hg' (by simp; omega) (fun t ht => (hlo t ht).1)
    have hs' := hg'.size
    rw [World.size_alloc] at hs'
    exact h v' w' ho' hbel (by omega) hg' (fun e => absurd (hnil.1 e).2 (by decide))
/-- A row of the call's own: its cells. -/
theorem owned_cells {w : World} {base n : Nat} {e : TypeId} {v : Value} {xs : List Value} (h : w.ownsRow base e 1 v n xs) (hn : v ≠ .slice none 0 0) :
    ∃ g cap, v = .slice (some ⟨g, 0, none⟩) n cap ∧ base ≤ g ∧ (∀ j u, xs[j]? = some u → w.cell? ⟨g, j, none⟩ = some u) ∧ g < w.heap.size ∧ n ≤ cap := by
  have hc := fun g hg => h.cells (g := g) hg
  rcases h.2 with ⟨rfl, rfl⟩ | ⟨g, cap, cur, rfl, hbg, hg, hnc, _⟩
  · exact absurd rfl hn
  · refine ⟨g, cap, rfl, hbg, fun j u hu => ?_, (Array.getElem?_eq_some_iff.1 hg).1, hnc⟩
    have := hc g rfl j u hu
    rwa [show ((⟨g, 0, none⟩ : Addr).add j) = ⟨g, j, none⟩ from by unfold Addr.add; split <;> simp_all] at this
/-- string(b), from any cells. -/
theorem run_str_at (P : Program) (w : World) (b off cap : Nat) (l : List UInt8) (src dst e : TypeId) (n : Nat) (hn : l.length = n)
    (hs : P.underlying src = some (.slice e)) (he : P.underlying e = some (.int .u8)) (hd : P.underlying dst = some .string)
    (hg : ∀ j u, l[j]? = some u → w.cell? ⟨b, off + j, none⟩ = some (.int .u8 (u.toNat : Int))) :
    (convert src dst (.slice (some ⟨b, off, none⟩) n cap)).run P w = .ok (.string ⟨l.toArray⟩) w := by
  subst hn
  rw [run_convert_bytes_string w src dst e _ _ _ hs he hd]
  have h := run_loadCells_list (P := P) (w := w) ⟨b, off, none⟩ ((l.map fun u => (u.toNat : Int)).map (Value.int .u8)) (by
    intro j v hj
    have : (⟨b, off, none⟩ : Addr).add j = ⟨b, off + j, none⟩ := by unfold Addr.add; split <;> simp_all
    rw [this]
    rw [List.getElem?_map, List.getElem?_map] at hj
    cases hl : l[j]? with
    | none => rw [hl] at hj; simp at hj
    | some u => rw [hl] at hj; simp at hj; subst hj; exact hg j u hl)
  rw [List.length_map, List.length_map] at h
  rw [run_bytesToString w _ _ _ _ h]
  have : ∀ (l : List UInt8) (acc : ByteArray), (l.map fun u => (u.toNat : Int)).foldl (fun r n => r.push (UInt8.ofNat n.toNat)) acc = ⟨(acc.data.toList ++ l).toArray⟩ := by
    intro l
    induction l with
    | nil => intro acc; simp
    | cons c l ih => intro acc; simp only [List.map_cons, List.foldl_cons]; rw [ih]; simp [ByteArray.push]
  rw [this]
  rfl
/-- An aggregate built, under a name. -/
theorem wpList_built {P : Program} {ops : Array Oper} {rest : List Oper} {o : Oper} {a : Act} {w : World} {Q : Exit → Act → World → Prop} (hg : o.guard = none) (t : TypeId) (parts : Array (Nat × Operand)) (ho : o.op = .build t parts)
    (cs : Array Value) (hf : P.built t (parts.map fun (i, x) => (i, a.eval x)).toList = some cs) (h : wpList P ops Q rest (a.put o.dst (.agg cs)) w) : wpList P ops Q (o :: rest) a w :=
  wpList_build hg t parts ho (by rw [hf]; rfl) (by rw [hf]; exact h)
def byv (u : UInt8) : Value := .int .u8 (u.toNat : Int)
theorem run_str_owned {P : Program} {w : World} {base n : Nat} {e src dst : TypeId} {v : Value} {l : List UInt8} (h : w.ownsRow base e 1 v n (l.map byv)) (hn : v ≠ .slice none 0 0)
    (hs : P.underlying src = some (.slice e)) (he : P.underlying e = some (.int .u8)) (hd : P.underlying dst = some .string) : (convert src dst v).run P w = .ok (.string ⟨l.toArray⟩) w := by
  have hl := h.1
  rw [List.length_map, Nat.mul_one] at hl
  obtain ⟨g, cap, rfl, _, hc, _, _⟩ := owned_cells h hn
  exact run_str_at P w g 0 cap l src dst e n hl hs he hd (fun j u hj => by rw [Nat.zero_add]; exact hc j _ (by rw [List.getElem?_map, hj]; rfl))
end Go.Proofs.YtjednaendedpdaaGreat
namespace Go.Proofs.YtjednaendedpdaaGreat
set_option maxRecDepth 100000
set_option linter.unusedVariables false
open Go Go.RowKit

/-- The slice v of n elements of one cell each lies in a row of the call's own, whose first cells are xs; of the cells none is frozen (a mark behind them may be). -/
def Own (w : World) (base : Nat) (e : TypeId) (v : Value) (n : Nat) (xs : List Value) : Prop :=
  xs.length = n ∧ ((v = .slice none 0 0 ∧ n = 0) ∨
    ∃ (g cap : Nat) (cur : Array Value) (fr : Nat × Nat), v = .slice (some ⟨g, 0, none⟩) n cap ∧ base ≤ g ∧ w.heap[g]? = some (.cells cur e fr) ∧ n ≤ cap ∧ cap ≤ maxLen ∧ cur.size = cap ∧ cur.toList.take n = xs ∧ (fr.2 = 0 ∨ cap ≤ fr.1))
theorem Own.nil (w : World) (base : Nat) (e : TypeId) : Own w base e (.slice none 0 0) 0 [] := ⟨rfl, .inl ⟨rfl, rfl⟩⟩
theorem Own.of {w : World} {base : Nat} {e : TypeId} {v : Value} {n : Nat} {xs : List Value} (h : w.ownsRow base e 1 v n xs) : Own w base e v n xs := by
  refine ⟨by simpa using h.1, ?_⟩
  rcases h.2 with ⟨a, b⟩ | ⟨g, cap, cur, a, b, c, d, e', f, k⟩
  · exact .inl ⟨a, b⟩
  · exact .inr ⟨g, cap, cur, (0, 0), a, b, c, d, e', by simpa using f, by simpa using k, .inl rfl⟩
theorem Own.made (w : World) (e : TypeId) (cur : Array Value) (cap base : Nat) (hb : base ≤ w.heap.size) (hm : cap ≤ maxLen) (hs : cur.size = cap) :
    Own (w.alloc (.cells cur e)) base e (.slice (some ⟨w.heap.size, 0, none⟩) 0 cap) 0 [] :=
  ⟨rfl, .inr ⟨w.heap.size, cap, cur, (0, 0), rfl, hb, heap_alloc_new w _, Nat.zero_le _, hm, hs, rfl, .inl rfl⟩⟩
theorem Own.lt {w : World} {base : Nat} {e : TypeId} {v : Value} {n : Nat} {xs : List Value} (h : Own w base e v n xs) : ∀ k, v.ownBlock = some k → base ≤ k ∧ k < w.heap.size := by
  intro k hk
  rcases h.2 with ⟨rfl, _⟩ | ⟨g, cap, cur, fr, rfl, hb, hg, _⟩
  · simp [Value.ownBlock] at hk
  · simp [Value.ownBlock] at hk
    subst hk
    exact ⟨hb, (Array.getElem?_eq_some_iff.1 hg).1⟩
/-- It stays where its block stays. -/
theorem Own.keep {w w' : World} {base : Nat} {e : TypeId} {v : Value} {n : Nat} {xs : List Value} (h : Own w base e v n xs) (hk : ∀ k, v.ownBlock = some k → w'.heap[k]? = w.heap[k]?) : Own w' base e v n xs := by
  refine ⟨h.1, ?_⟩
  rcases h.2 with ⟨a, b⟩ | ⟨g, cap, cur, fr, rfl, b, c, d⟩
  · exact .inl ⟨a, b⟩
  · exact .inr ⟨g, cap, cur, fr, rfl, b, (hk g rfl).trans c, d⟩
theorem Own.alloc {w : World} {base : Nat} {e : TypeId} {v : Value} {n : Nat} {xs : List Value} (h : Own w base e v n xs) (o : Obj) : Own (w.alloc o) base e v n xs :=
  h.keep fun k hk => heap_alloc_old _ _ (h.lt k hk).2
theorem Own.drew {w : World} {base : Nat} {e : TypeId} {v : Value} {n : Nat} {xs : List Value} (h : Own w base e v n xs) : Own w.drew base e v n xs := h.keep fun _ _ => rfl
theorem Own.drewN {w : World} {base : Nat} {e : TypeId} {v : Value} {n : Nat} {xs : List Value} (h : Own w base e v n xs) (k : Nat) : Own (w.drewN k) base e v n xs := h.keep fun _ _ => rfl
theorem Own.below {w w' : World} {base : Nat} {e : TypeId} {v : Value} {n : Nat} {xs : List Value} (h : Own w base e v n xs) (hb : Below w.heap.size w w') : Own w' base e v n xs :=
  h.keep fun k hk => hb.block k (h.lt k hk).2
theorem Own.cells {w : World} {base n : Nat} {e : TypeId} {v : Value} {xs : List Value} (h : Own w base e v n xs) (hn : v ≠ .slice none 0 0) :
    ∃ g cap, v = .slice (some ⟨g, 0, none⟩) n cap ∧ base ≤ g ∧ (∀ j u, xs[j]? = some u → w.cell? ⟨g, j, none⟩ = some u) ∧ g < w.heap.size ∧ n ≤ cap := by
  rcases h.2 with ⟨rfl, rfl⟩ | ⟨g, cap, cur, fr, rfl, hbg, hg, hnc, hm, hcs, htake, _⟩
  · exact absurd rfl hn
  · refine ⟨g, cap, rfl, hbg, fun j u hu => ?_, (Array.getElem?_eq_some_iff.1 hg).1, hnc⟩
    rw [cell_of_row _ _ _ _ _ _ hg]
    rw [← htake, List.getElem?_take] at hu
    split at hu
    · simpa using hu
    · cases hu
/-- append of m ones, that lie anywhere. -/
theorem run_append_Own {P : Program} (w : World) (base : Nat) (t ty e : TypeId) (z : Value) (by_ : Nat) (ht : P.underlying t = some (.slice e)) (hi : (P.info? e).map (fun i => (i.zero, i.size, i.bytes)) = some (some z, 1, by_)) (hz : z.cells.size = 1)
    (v : Value) (n : Nat) (xs : List Value) (hown : Own w base e v n xs) (a : Addr) (m c : Nat) (news : List Value) (hl : news.length = m) (hnews : ∀ j u, news[j]? = some u → w.cell? (a.add j) = some u) (h1 : ∀ u ∈ news, u.oneCell' = true)
    (hm : 0 < m) (hn : n + m ≤ 1000000000) (hby : by_ ≤ 16) (hbase : base ≤ w.heap.size) :
    ∃ v' w', (Builtin.append_ #[t, t] ty #[v, .slice (some a) m c]).run P w = .ok v' w' ∧ Own w' base e v' (n + m) (xs ++ news) ∧ w.grownBy w' v.ownBlock ∧ v' ≠ .slice none 0 0 := by
  obtain ⟨i0, hi0, hz0, hz1, hz2⟩ := info_parts hi
  have hlen : (xs ++ news).length = n + m := by rw [List.length_append, hown.1, hl]
  have hbytes : (n + m) * by_ ≤ 140737488355328 := by
    have : (n + m) * by_ ≤ (n + m) * 16 := Nat.mul_le_mul (Nat.le_refl _) hby
    omega
  have h63 : n + m ≤ maxLen := by unfold maxLen; omega
  rcases hown.2 with ⟨rfl, rfl⟩ | ⟨g, cap, cur, fr, rfl, hbg, hg, hnc, hcm, hcs, htake, hfr⟩
  · have hx : xs = [] := List.eq_nil_of_length_eq_zero hown.1
    subst hx
    obtain ⟨v', w', r1, r2, r3, r4⟩ := run_append_own (P := P) w base t ty e i0 z 1 by_ ht hi0 hz0 hz1 hz2 hz (by decide) (.slice none 0 0) 0 [] (World.ownsRow_nil _ _ _ _) a m c news (by rw [hl, Nat.mul_one]) hnews h1 h63 hbytes hbase
    exact ⟨v', w', r1, Own.of r2, r3, fun e => by have := (r4.1 e).2; omega⟩
  · by_cases hroom : n + m ≤ cap
    · have hr := run_append_room_cells (P := P) (w := w) t ty e i0 ht hi0 g 0 n cap a m c news (by rw [hl, hz1, Nat.mul_one]) hnews h1 hroom (fun j hj => by
        rw [hz1, Nat.zero_add, Nat.mul_one, cell_of_row _ _ _ _ _ _ hg, Array.getElem?_eq_getElem (by omega)]; rfl) (fun j hj => by
        rw [hz1, Nat.zero_add, Nat.mul_one]
        simp only [World.frozen?, hg]
        rcases hfr with hfr | hfr
        · rw [hfr]; simp
        · have : ¬ fr.1 ≤ n + j := by omega
          simp [this])
      rw [hz1, Nat.zero_add, Nat.mul_one] at hr
      have hset : ∀ (vs : List Value) (o : Nat) (W : World) (C : Array Value), W.heap[g]? = some (.cells C e fr) → o + vs.length ≤ C.size → ∃ C', (W.setCells g o vs).heap[g]? = some (.cells C' e fr) ∧ C'.size = C.size ∧ C'.toList.take (o + vs.length) = C.toList.take o ++ vs := by
        intro vs
        induction vs with
        | nil => intro o W C hC _; exact ⟨C, hC, rfl, by simp⟩
        | cons u vs ih =>
          intro o W C hC hle
          rw [List.length_cons] at hle
          obtain ⟨C', q1, q2, q3⟩ := ih (o + 1) (W.setCell ⟨g, o, none⟩ u) (C.setIfInBounds o u) (by rw [heap_set, if_pos rfl, hC]; rfl) (by simp; omega)
          refine ⟨C', q1, by simpa using q2, ?_⟩
          rw [List.length_cons, show o + (vs.length + 1) = o + 1 + vs.length from by omega, q3, Array.toList_setIfInBounds, List.take_succ_eq_append_getElem (by simp; omega), List.take_set_of_le (by omega)]
          simp
      obtain ⟨C', q1, q2, q3⟩ := hset news n w cur hg (by omega)
      refine ⟨_, _, hr, ⟨hlen, .inr ⟨g, cap, C', fr, rfl, hbg, q1, hroom, hcm, q2.trans hcs, ?_, hfr⟩⟩, ⟨?_, ?_, ?_, ?_, ?_⟩, by simp⟩
      · rw [← hl, q3, htake]
      · exact (upd_setCells g news n w).os
      · exact (upd_setCells g news n w).tape
      · exact (upd_setCells g news n w).output
      · exact (upd_setCells g news n w).size
      · intro k hk hne
        exact (upd_setCells g news n w).block k hk (by simp only [List.mem_singleton]; intro e; exact hne (by simp [Value.ownBlock, e]))
    · have holds : ∀ j u, xs[j]? = some u → w.cell? ((⟨g, 0, none⟩ : Addr).add j) = some u := by
        intro j u hu
        rw [show ((⟨g, 0, none⟩ : Addr).add j) = ⟨g, j, none⟩ from by unfold Addr.add; split <;> simp_all, cell_of_row _ _ _ _ _ _ hg]
        rw [← htake, List.getElem?_take] at hu
        split at hu
        · simpa using hu
        · cases hu
      have hr := run_append_grow (P := P) w t ty e i0 z ht hi0 hz0 ⟨g, 0, none⟩ n cap xs (by rw [hz1, Nat.mul_one]; exact hown.1) holds a m c news (by rw [hz1, Nat.mul_one]; exact hl) hnews (by omega) (by omega) (growslice_fits (by omega) (by rw [hz2]; exact hbytes))
      have hge := grownCap_ge w (n + m) cap e
      have hcm' : grownCap w (n + m) cap e ≤ maxLen := grownCap_le_maxLen w (n + m) cap e h63
      refine ⟨_, _, hr, ⟨hlen, .inr ⟨w.heap.size, _, _, (0, 0), rfl, hbase, heap_alloc_new w.drew _, hge, hcm', ?_, ?_, .inl rfl⟩⟩, ⟨rfl, rfl, rfl, by simp, fun k hk _ => heap_alloc_old w.drew _ hk⟩, by simp⟩
      · simp only [Array.size_append, List.size_toArray, size_zeroCells, hz, hown.1, hl]
        omega
      · simp only [Array.toList_append, List.append_assoc]
        rw [← List.append_assoc, ← hlen]
        exact List.take_left
/-- append, as the walk meets it. -/
theorem wpList_app {P : Program} {w w0 : World} {ops : Array Oper} {rest : List Oper} {o : Oper} {a : Act} {Q : Exit → Act → World → Prop} (hgd : o.guard = none) (s x : Operand) (t : TypeId)
    (ho : o.op = .call { callee := .builtin .append, args := #[s, x], argTypes := #[t, t] })
    (B : Nat) (e : TypeId) (z : Value) (by_ : Nat) (ht : P.underlying t = some (.slice e)) (hi : (P.info? e).map (fun i => (i.zero, i.size, i.bytes)) = some (some z, 1, by_)) (hz : z.cells.size = 1)
    (v : Value) (n : Nat) (xs : List Value) (hs : a.eval s = v) (hown : Own w B e v n xs) (hb : Below B w0 w) (hB : B ≤ w.heap.size)
    (ad : Addr) (m c : Nat) (news : List Value) (hx : a.eval x = .slice (some ad) m c) (hl : news.length = m) (hnews : ∀ j u, news[j]? = some u → w.cell? (ad.add j) = some u) (h1 : ∀ u ∈ news, u.oneCell' = true) (hm : 0 < m) (hn : n + m ≤ 1000000000) (hby : by_ ≤ 16)
    (h : ∀ v' w', Own w' B e v' (n + m) (xs ++ news) → Below B w0 w' → B ≤ w'.heap.size → w.grownBy w' v.ownBlock → v' ≠ .slice none 0 0 → wpList P ops Q rest (a.put o.dst v') w') :
    wpList P ops Q (o :: rest) a w := by
  obtain ⟨v', w', r1, r2, r3, r4⟩ := run_append_Own (P := P) w B t o.type e z by_ ht hi hz v n xs hown ad m c news hl hnews h1 hm hn hby hB
  have hlo := hown.lt
  refine wpList_append_run hgd s x t ho hs hx r1 (h v' w' r2 (hb.grown r3 hB (fun t ht => (hlo t ht).1)) (Nat.le_trans hB r3.size) r3 r4)
/-- append of one. -/
theorem wpList_app1 {P : Program} {w w0 : World} {ops : Array Oper} {rest : List Oper} {o : Oper} {a : Act} {Q : Exit → Act → World → Prop} (hgd : o.guard = none) (s x : Operand) (t : TypeId)
    (ho : o.op = .call { callee := .builtin .append, args := #[s, x], argTypes := #[t, t] })
    (B : Nat) (e : TypeId) (z : Value) (by_ : Nat) (ht : P.underlying t = some (.slice e)) (hi : (P.info? e).map (fun i => (i.zero, i.size, i.bytes)) = some (some z, 1, by_)) (hz : z.cells.size = 1)
    (v : Value) (n : Nat) (xs : List Value) (hs : a.eval s = v) (hown : Own w B e v n xs) (hb : Below B w0 w) (hB : B ≤ w.heap.size)
    (g : Nat) (y : Value) (hx : a.eval x = .slice (some ⟨g, 0, none⟩) 1 1) (hy : w.cell? ⟨g, 0, none⟩ = some y) (h1 : y.oneCell' = true) (hn : n + 1 ≤ 1000000000) (hby : by_ ≤ 16)
    (h : ∀ v' w', Own w' B e v' (n + 1) (xs ++ [y]) → Below B w0 w' → B ≤ w'.heap.size → w.grownBy w' v.ownBlock → v' ≠ .slice none 0 0 → wpList P ops Q rest (a.put o.dst v') w') :
    wpList P ops Q (o :: rest) a w :=
  wpList_app hgd s x t ho B e z by_ ht hi hz v n xs hs hown hb hB ⟨g, 0, none⟩ 1 1 [y] hx rfl (fun j u hj => by
    match j, hj with
    | 0, hj => simp at hj; subst hj; simpa [Addr.add] using hy) (fun u hu => by simp at hu; subst hu; exact h1) (by decide) hn hby h
/-- What []byte(s) lays is the call's own. -/
theorem Own.bytes (w : World) (s : ByteArray) (cap base : Nat) (e : TypeId) (hb : base ≤ w.heap.size) (hc : s.size ≤ cap) (hm : cap ≤ maxLen) :
    Own (w.alloc (.cells (bytesRow s cap) e ((bytesRow s cap).size, (bytesRow s cap).size + 1))) base e (.slice (some ⟨w.heap.size, 0, none⟩) s.size cap) s.size (s.data.toList.map byv) := by
  have hs : (bytesRow s cap).size = cap := by
    unfold bytesRow
    rw [Array.size_append, Array.size_map, Array.size_replicate]
    have : s.data.size = s.size := rfl
    omega
  refine ⟨by simp, .inr ⟨w.heap.size, cap, _, _, rfl, hb, heap_alloc_new w _, hc, hm, hs, ?_, .inr (by rw [hs]; exact Nat.le_refl _)⟩⟩
  unfold bytesRow
  rw [Array.toList_append, Array.toList_map]
  have : (s.data.toList.map fun b => Value.int .u8 b.toNat).length = s.size := by simp
  rw [← this]
  exact List.take_left
/-- []byte(s), its run. -/
theorem run_tobytes {P : Program} (src dst e : TypeId) (s : ByteArray) (hs : P.underlying src = some .string) (hd : P.underlying dst = some (.slice e)) (he : P.underlying e = some (.int .u8)) (hl : s.size ≤ 1000000000) (base : Nat) (w : World) (hb : base ≤ w.heap.size) :
    ∃ cap C fr, (convert src dst (.string s)).run P w = .ok (.slice (some ⟨w.heap.size, 0, none⟩) s.size cap) (w.alloc (.cells C e fr)).drew ∧
      Own (w.alloc (.cells C e fr)) base e (.slice (some ⟨w.heap.size, 0, none⟩) s.size cap) s.size (s.data.toList.map byv) :=
  ⟨_, _, _, run_bytes_of_string w src dst e s hs hd he, Own.bytes w s _ base e hb (grownCap_ge w s.size 0 e) (grownCap_le_maxLen w s.size 0 e (by unfold maxLen; omega))⟩
/-- string(b) of such a row. -/
theorem run_str_Own {P : Program} {w : World} {base n : Nat} {e src dst : TypeId} {v : Value} {l : List UInt8} (h : Own w base e v n (l.map byv)) (hn : v ≠ .slice none 0 0)
    (hs : P.underlying src = some (.slice e)) (he : P.underlying e = some (.int .u8)) (hd : P.underlying dst = some .string) : (convert src dst v).run P w = .ok (.string ⟨l.toArray⟩) w := by
  have hl := h.1
  rw [List.length_map] at hl
  obtain ⟨g, cap, rfl, _, hc, _, _⟩ := h.cells hn
  exact run_str_at P w g 0 cap l src dst e n hl hs he hd (fun j u hj => by rw [Nat.zero_add]; exact hc j _ (by rw [List.getElem?_map, hj]; rfl))
theorem bdrewN {B : Nat} {a w : World} (h : Below B a w) (n : Nat) : Below B a (w.drewN n) := ⟨h.os, h.tape, h.output, h.size, h.block⟩
theorem cell_new (w : World) (y : Value) (e : TypeId) : (w.alloc (.cells #[y] e)).cell? ⟨w.heap.size, 0, none⟩ = some y :=
  cell_of_row _ _ 0 _ _ _ (heap_alloc_new _ _)
end Go.Proofs.YtjednaendedpdaaGreat
namespace Go.Proofs.YtjednaendedpdaaGreat
set_option maxRecDepth 100000
set_option linter.unusedVariables false
open Go Go.RowKit

/-- append onto a row of the call's own: where the answer lies. -/
theorem run_append_fresh {P : Program} (w : World) (t ty e : TypeId) (i : TypeInfo) (z : Value) (size bytes : Nat) (ht : P.underlying t = some (.slice e)) (hi : P.info? e = some i) (hz : i.zero = some z)
    (hsize : i.size = size) (hby : i.bytes = bytes) (hzs : z.cells.size = size) (hsz : 0 < size)
    (v : Value) (n : Nat) (xs : List Value) (hown : w.ownsRow 0 e size v n xs)
    (a : Addr) (m c : Nat) (news : List Value) (hl : news.length = m * size) (hnews : ∀ j u, news[j]? = some u → w.cell? (a.add j) = some u) (h1 : ∀ u ∈ news, u.oneCell' = true)
    (hm : 0 < m) (h63 : n + m ≤ 1000000) (hbytes : bytes ≤ 1000) :
    ∃ v' w', (Builtin.append_ #[t, t] ty #[v, .slice (some a) m c]).run P w = .ok v' w' ∧ w'.ownsRow 0 e size v' (n + m) (xs ++ news) ∧ w.grownBy w' v.ownBlock ∧
      (∃ k, v'.ownBlock = some k ∧ (v.ownBlock = some k ∨ w.heap.size ≤ k)) := by
  have hb2 : (n + m) * bytes ≤ 140737488355328 := Nat.le_trans (Nat.mul_le_mul h63 hbytes) (by decide)
  have hx : n + m ≤ maxLen := by unfold maxLen; omega
  obtain ⟨v', w', r1, r2, r3, r4⟩ := run_append_own (P := P) w 0 t ty e i z size bytes ht hi hz hsize hby hzs hsz v n xs hown a m c news hl hnews h1 hx hb2 (Nat.zero_le _)
  refine ⟨v', w', r1, r2, r3, ?_⟩
  have hn : ∃ k, v'.ownBlock = some k := by
    rcases r2.2 with ⟨_, h⟩ | ⟨g, cap, cur, h, _⟩
    · omega
    · exact ⟨g, by rw [h]; rfl⟩
  obtain ⟨k, hk⟩ := hn
  refine ⟨k, hk, ?_⟩
  rcases hown.2 with ⟨rfl, rfl⟩ | ⟨g, cap, cur, rfl, hbg, hg, hnc, hcm, hcs, htake⟩
  · have hxs : xs = [] := List.eq_nil_of_length_eq_zero (by simpa using hown.1)
    subst hxs
    obtain ⟨v2, w2, q1, q2, _, _⟩ := run_append_own (P := P) w w.heap.size t ty e i z size bytes ht hi hz hsize hby hzs hsz (.slice none 0 0) 0 [] (World.ownsRow_nil _ _ _ _) a m c news hl hnews h1 hx hb2 (Nat.le_refl _)
    rw [r1] at q1
    cases q1
    exact .inr (q2.lt k hk).1
  · by_cases hroom : n + m ≤ cap
    · have hr := run_append_room (P := P) w t ty e i ht hi g n cap cur hg a m c news (by rw [hl, hsize]) hnews h1 hroom (by rw [hl, hcs, hsize, ← Nat.add_mul]; exact Nat.mul_le_mul_right _ hroom)
      rw [r1] at hr
      cases hr
      exact .inl hk
    · have hr := run_append_grow (P := P) w t ty e i z ht hi hz ⟨g, 0, none⟩ n cap xs (by rw [hsize]; exact hown.1) (hown.cells (g := g) rfl) a m c news (by rw [hsize]; exact hl) hnews (by omega) (by omega) (growslice_fits (by omega) (by rw [hby]; exact hb2))
      rw [r1] at hr
      cases hr
      simp [Value.ownBlock] at hk
      exact .inr (by omega)

/-- What may change behind a call of a log. -/
def fp (g : Nat) (v : Value) (p bb cb : Nat) : List Nat := g :: p :: bb :: cb :: v.ownBlock.toList
/-- All blocks of a log are apart. -/
structure Lap (g q p bb cb : Nat) (v : Value) : Prop where
  hq : q ∉ [g, p, bb, cb]
  hg : g ∉ [p, bb, cb]
  hv : ∀ k, v.ownBlock = some k → k ∉ [g, q, p, bb, cb]
/-- A log over a part over a flash. -/
structure LgS (w : World) (F B : Int) (g q p bb cb : Nat) (v : Value) (s : FS) (l : LS) : Prop where
  ap : Lap g q p bb cb v
  f : Fl 89 w p bb cb s
  ok : s.Ok
  pa : Pa w q p F B
  i : In s.n.length F B
  lg : Lg w g q v l
theorem Lap.nm {g q p bb cb : Nat} {v : Value} (h : Lap g q p bb cb v) : p ≠ g ∧ bb ≠ g ∧ cb ≠ g ∧ q ≠ g ∧ q ≠ p ∧ q ≠ bb ∧ q ≠ cb := by
  have h1 := h.hq; have h2 := h.hg
  simp only [List.mem_cons, List.not_mem_nil, or_false, not_or] at h1 h2
  refine ⟨?_, ?_, ?_, ?_, ?_, ?_, ?_⟩ <;> omega
/-- The flash changed alone. -/
theorem LgS.flash {w w' : World} {F B : Int} {g q p bb cb : Nat} {v : Value} {s s' : FS} {l : LS} (h : LgS w F B g q p bb cb v s l) (hf : Fl 89 w' p bb cb s') (ho : s'.Ok) (hn : s'.n.length = s.n.length) (hu : Upd [p, bb, cb] w w') : LgS w' F B g q p bb cb v s' l :=
  ⟨h.ap, hf, ho, h.pa.upd hu (fun hm => h.ap.hq (List.mem_cons_of_mem _ hm)), by rw [hn]; exact h.i, h.lg.upd hu h.ap.hg fun k hk hm => h.ap.hv k hk (List.mem_cons_of_mem _ (List.mem_cons_of_mem _ hm))⟩
/-- The log's own cells changed alone. -/
theorem LgS.own {w w' : World} {F B : Int} {g q p bb cb : Nat} {v : Value} {s : FS} {l l' : LS} (h : LgS w F B g q p bb cb v s l) (hl : Lg w' g q v l') (hu : Upd [g] w w') : LgS w' F B g q p bb cb v s l' :=
  ⟨h.ap, h.f.upd hu (by simp; exact h.ap.nm.1) (by simp; exact h.ap.nm.2.1) (by simp; exact h.ap.nm.2.2.1), h.ok, h.pa.upd hu (by simp; exact h.ap.nm.2.2.2.1), h.i, hl⟩
theorem LgS.keep {w w' : World} {F B : Int} {g q p bb cb : Nat} {v : Value} {s : FS} {l : LS} (h : LgS w F B g q p bb cb v s l) (hu : Upd [] w w') : LgS w' F B g q p bb cb v s l :=
  ⟨h.ap, h.f.upd hu (by simp) (by simp) (by simp), h.ok, h.pa.upd hu (by simp), h.i, h.lg.upd hu (by simp) (by simp)⟩
theorem LgS.vg {w : World} {F B : Int} {g q p bb cb : Nat} {v : Value} {s : FS} {l : LS} (h : LgS w F B g q p bb cb v s l) : ∀ k, v.ownBlock = some k → k ≠ g := fun k hk e => h.ap.hv k hk (by rw [e]; exact List.mem_cons_self ..)

theorem lbegin_any (num : Nat) (hn : num < 281474976710656) (w : World) : Calls Tryz.prog 62 #[.int .i64 num] w fun e w' => e = .returned (.string ⟨(begL num).toArray⟩) ∧ Below w.heap.size w w' := by
  have PU := Box.mk (fun w => cput_any num 6 (by omega) (by rw [show (256 : Nat) ^ 6 = 281474976710656 from rfl]; exact hn) w)
  have HX : Box ((⟨#[83]⟩ : ByteArray) ++ ⟨(leList 6 num).toArray⟩ = ⟨(begL num).toArray⟩) := ⟨by
    apply ByteArray.ext; rw [ByteArray.data_append]; apply Array.toList_inj.1; simp [begL]⟩
  clear hn
  go_enter Tryz.func62, Tryz.ntmps62
  go_wp2_with fail
  refine (PU.out _).mono ?_
  rintro e w1 ⟨rfl, hb⟩
  have HB := Box.mk hb; clear hb
  have hcv : (convert 22 9 (.slice (some ⟨w1.heap.size, 0, none⟩) 1 1)).run Tryz.prog (w1.alloc (.cells #[.int .u8 83] 5)) = .ok (.string ⟨#[83]⟩) (w1.alloc (.cells #[.int .u8 83] 5)) :=
    run_bytes_at Tryz.prog _ w1.heap.size 0 1 [83] 22 9 5 1 (by simp) Tryz.underlying22 Tryz.underlying5 Tryz.underlying9 (fun j u hu => by
      rw [cell_of_row _ _ _ _ _ _ (heap_alloc_new _ _)]
      match j, hu with
      | 0, hu => simp at hu; subst hu; rfl
      | j + 1, hu => simp at hu)
  go_wp2
  go_ret
  exact ⟨by rw [← HX.out]; rfl, HB.out.alloc HB.out.size _⟩

set_option maxHeartbeats 1000000 in
theorem lclean_any (g q p bb cb : Nat) (F B : Int) (v : Value) (s : FS) (l : LS) (k : Nat) (w : World) (h : LgS w F B g q p bb cb v s l) (hk : k ≤ 256) :
    Calls Tryz.prog 76 #[.pointer (some ⟨g, 0, none⟩), .int .i64 k] w fun e w' => e = .returned (.int .i64 (s.lclean F B l k).2.2) ∧ LgS w' F B g q p bb cb v (s.lclean F B l k).1 (s.lclean F B l k).2.1 ∧ Upd [g, p, bb, cb] w w' := by
  obtain ⟨c0, c1, c2⟩ := h.lg.cells
  have hw0 : IntKind.i64.wrap ((k : Int) * 512) = ((512 * k : Nat) : Int) := by rw [IntKind.wrap_i64]; omega
  have PC := Box.mk (pclean_any q p bb cb F B s ((512 * k : Nat) : Int) 512 w h.f h.ok h.pa h.i (by omega) (by omega))
  have PE := Box.mk (perase_any q p bb cb F B s (k : Int) w h.f h.ok h.pa h.i)
  have TD := Box.mk (fun s w (h : LgS w F B g q p bb cb v s l) e => ltold_any g q v l e w h.lg h.vg)
  have HC := Box.mk (show s.wclean F B k = if (pcleanV s F B (512 * k : Nat) 512).2 ≠ 0 then (s, (pcleanV s F B (512 * k : Nat) 512).2) else if (pcleanV s F B (512 * k : Nat) 512).1 = true then (s, 0) else s.perase F B k from rfl)
  have EO := Box.mk (FS.perase_ok h.ok F B k)
  unfold FS.lclean
  generalize s.wclean F B k = c at HC ⊢
  generalize s.perase F B (k : Int) = r at PE HC EO
  generalize pcleanV s F B ((512 * k : Nat) : Int) 512 = x at PC HC
  obtain ⟨x1, x2⟩ := x
  obtain ⟨r1, r2⟩ := r
  dsimp only at PC HC PE EO ⊢
  have H := Box.mk h
  have hkI : (k : Int) ≤ 256 := by omega
  clear h c1 c2 hk
  by_cases hx : x2 = 0
  · have hxb : (x2 != 0) = false := by simpa using hx
    have hc := HC.out
    rw [if_neg (by simpa using hx)] at hc
    cases x1 with
    | true =>
      rw [if_pos rfl] at hc
      subst hx
      subst hc
      dsimp only
      clear HC PE EO
      go_enter Tryz.func76, Tryz.ntmps76
      go_wp2_with fail
      refine PC.out.mono ?_
      rintro e w1 ⟨rfl, rfl⟩
      go_wp2_with fail
      refine (TD.out _ _ H.out _).mono ?_
      rintro e w1 ⟨rfl, hl, hu⟩
      have L1 := Box.mk (H.out.own hl hu); have U1 := Box.mk (hu.mono (T := [g, p, bb, cb]) (by simp)); clear hl hu
      go_wp2_with fail
      go_ret
      exact ⟨rfl, L1.out, U1.out⟩
    | false =>
      rw [if_neg (by simp)] at hc
      subst hc
      dsimp only
      clear HC
      go_enter Tryz.func76, Tryz.ntmps76
      go_wp2_with fail
      refine PC.out.mono ?_
      rintro e w1 ⟨rfl, rfl⟩
      go_wp2_with fail
      refine PE.out.mono ?_
      rintro e w2 ⟨rfl, hf, hu⟩
      have H2 := Box.mk (H.out.flash hf EO.out.1 EO.out.2 hu); have U2 := Box.mk hu; clear hf hu
      go_wp2_with fail
      refine (TD.out _ _ H2.out _).mono ?_
      rintro e w1 ⟨rfl, hl, hu⟩
      have L1 := Box.mk (H2.out.own hl hu); have U1 := Box.mk ((U2.out.mono (T := [g, p, bb, cb]) (by simp)).trans (hu.mono (T := [g, p, bb, cb]) (by simp))); clear hl hu
      go_wp2_with fail
      go_ret
      exact ⟨rfl, L1.out, U1.out⟩
  · have hxb : (x2 != 0) = true := by rw [bne_iff_ne]; exact hx
    have hc := HC.out
    rw [if_pos hx] at hc
    subst hc
    dsimp only
    clear HC PE EO hx
    go_enter Tryz.func76, Tryz.ntmps76
    go_wp2_with fail
    refine PC.out.mono ?_
    rintro e w1 ⟨rfl, rfl⟩
    go_wp2_with fail
    refine (TD.out _ _ H.out _).mono ?_
    rintro e w1 ⟨rfl, hl, hu⟩
    have L1 := Box.mk (H.out.own hl hu); have U1 := Box.mk (hu.mono (T := [g, p, bb, cb]) (by simp)); clear hl hu
    go_wp2_with fail
    go_ret
    exact ⟨rfl, L1.out, U1.out⟩
end Go.Proofs.YtjednaendedpdaaGreat
namespace Go.Proofs.YtjednaendedpdaaGreat
set_option maxRecDepth 100000
set_option linter.unusedVariables false
open Go Go.RowKit

theorem info_tseg : (Tryz.prog.info? 78).map (fun i => (i.zero, i.size, i.bytes)) = some (some (.agg #[.int .i64 0, .int .i64 0]), 2, 16) := by kernel_rfl
theorem lpwrite_any (g q p bb cb : Nat) (F B : Int) (v : Value) (s : FS) (l : LS) (a : Nat) (t : List UInt8) (w : World) (h : LgS w F B g q p bb cb v s l) (ha : a ≤ 1000000) (ht : t.length ≤ 1000000) :
    Calls Tryz.prog 55 #[.pointer (some ⟨q, 0, none⟩), .int .i64 (a : Nat), .string ⟨t.toArray⟩] w fun e w' => e = .returned (.int .i64 (s.pwrite F B a t).2) ∧ LgS w' F B g q p bb cb v (s.pwrite F B a t).1 l ∧ Upd [p, bb, cb] w w' :=
  (pwrite_any q p bb cb F B s a ⟨t.toArray⟩ w h.f h.ok h.pa h.i h.ap.nm.2.2.2.2.2.1 h.ap.nm.2.2.2.2.1 (by omega) (by show (t.toArray.size : Nat) ≤ _; rw [List.size_toArray]; omega)).mono fun e w' ⟨he, hf, hu⟩ => ⟨he, h.flash hf (FS.pwrite_ok h.ok F B a _).1 (FS.pwrite_ok h.ok F B a _).2 (hu.mono (by simp)), hu.mono (by simp)⟩
set_option maxHeartbeats 1000000 in
theorem lmakes_any (g q p bb cb : Nat) (F B : Int) (v : Value) (s : FS) (l : LS) (k num : Nat) (w : World) (h : LgS w F B g q p bb cb v s l) (hk : k ≤ 256) (hnum : num < 281474976710656) (hsg : l.segs.length < 300) :
    Calls Tryz.prog 53 #[.pointer (some ⟨g, 0, none⟩), .int .i64 k, .int .i64 num] w fun e w' => e = .returned (.int .i64 (s.lmakes F B l k num).2.2) ∧
      (∃ v', LgS w' F B g q p bb cb v' (s.lmakes F B l k num).1 (s.lmakes F B l k num).2.1 ∧ ∀ j, v'.ownBlock = some j → v.ownBlock = some j ∨ w.heap.size ≤ j) ∧ Upd (fp g v p bb cb) w w' := by
  have hw0 : IntKind.i64.wrap ((k : Int) * 512) = ((512 * k : Nat) : Int) := by rw [IntKind.wrap_i64]; omega
  have hw7 : IntKind.i64.wrap (((512 * k : Nat) : Int) + 7) = ((512 * k + 7 : Nat) : Int) := by rw [IntKind.wrap_i64]; omega
  have CL := Box.mk (lclean_any g q p bb cb F B v s l k w h hk)
  obtain ⟨V, hV⟩ : ∃ V, V = s.lmakes F B l k num := ⟨_, rfl⟩
  rw [← hV]
  have HM := Box.mk hV
  clear hV
  unfold FS.lmakes at HM
  have O1 := FS.lclean_ok h.ok F B l k
  have SG1 : (s.lclean F B l k).2.1.segs.length = l.segs.length := rfl
  generalize s.lclean F B l k = c at CL HM O1 SG1
  obtain ⟨s1, l1, e1⟩ := c
  dsimp only at CL HM O1 SG1
  have H := Box.mk h
  have BG := Box.mk (fun w => lbegin_any num hnum w)
  have HK := Box.mk hk
  have SG : Box (l1.segs.length < 300) := ⟨by rw [SG1]; exact hsg⟩
  clear SG1 hsg
  clear h hk
  by_cases he1 : e1 = 0
  · have hb1 : (e1 != 0) = false := by simpa using he1
    have hm := HM.out
    rw [if_neg (by simpa using he1)] at hm
    unfold FS.lwrite at hm
    dsimp only at hm
    have HM := Box.mk hm
    clear hm
    go_enter Tryz.func53, Tryz.ntmps53
    go_wp2_with fail
    refine CL.out.mono ?_
    rintro e w1 ⟨rfl, h1, u1⟩
    have H1 := Box.mk h1; have U1 := Box.mk u1; clear h1 u1
    obtain ⟨c0, c1, c2⟩ := H1.out.lg.cells
    go_upto_region 4 with (fail)
    have LT : Box (∀ k ∈ [p, bb, cb], k < w1.heap.size) := ⟨by have := H1.out.f.lt; intro k hk; simp at hk; omega⟩
    have GN := Box.mk H1.out.ap.hg
    have BG := Box.mk (fun w1 (h : LgS w1 F B g q p bb cb v s1 l1) => (BG.out w1).mono (fun e w' hh => (show _ ∧ LgS w' F B g q p bb cb v s1 l1 ∧ Upd [] w1 w' from ⟨hh.1, h.keep (Upd.of_below hh.2), Upd.of_below hh.2⟩)))
    have PW := Box.mk (fun w1 (h : LgS w1 F B g q p bb cb v s1 l1) => (lpwrite_any g q p bb cb F B v s1 l1 (512 * k) (begL num) w1 h (by have := HK.out; omega) (by simp [begL, leList_length])))
    generalize s1.pwrite F B ((512 * k : Nat) : Int) (begL num) = r at PW HM
    obtain ⟨r1, r2⟩ := r
    dsimp only at PW HM
    refine wp_region_mixS [p, bb, cb] (fun w => LgS w F B g q p bb cb v s1 l1) (fun w w' hg h => h.keep hg.upd) (H1.out.keep (Upd.refl [] w1).drew) (LT.out) 10 [.flo, .flo, .flo, .flo, .flo, .flo, .flo, .flo, .cha, .cha] (by kernel_rfl) (by kernel_rfl) rfl ?_
    simp only [List.take, List.zip, List.zipWith]
    try go_frame
    refine gm_move (.tmp 0) (.inl rfl) (.pointer (some ⟨g, 0, none⟩)) rfl ?_
    try go_frame
    refine gm_move (.tmp 0) (.inl rfl) (.pointer (some ⟨g, 0, none⟩)) rfl ?_
    try go_frame
    refine gm_flo (.pointer (some ⟨g, 0, none⟩)) (fun w1 hw1 => ?_) ?_
    case refine_1 =>
      go_simp
    try go_frame
    refine gm_flo (.pointer (some ⟨g, 0, none⟩)) (fun w1 hw1 => ?_) ?_
    case refine_1 =>
      go_simp
    try go_frame
    refine gm_flo (.pointer (some ⟨q, 0, none⟩)) (fun w1 hw1 => ?_) ?_
    case refine_1 =>
      have e1 : w1.cell? ⟨g, 0, none⟩ = some (.pointer (some ⟨q, 0, none⟩)) := (cell_of_row _ _ _ _ _ _ (hw1.at (GN.out) H1.out.lg.row)).trans rfl
      go_simp
    try go_frame
    refine gm_move (.tmp 1) (.inl rfl) (.int .i64 k) rfl ?_
    try go_frame
    refine gm_flo (.int .i64 ((512 * k : Nat) : Int)) (fun w1 hw1 => ?_) ?_
    case refine_1 =>
      go_simp
    try go_frame
    refine gm_move (.tmp 2) (.inl rfl) (.int .i64 num) rfl ?_
    try go_frame
    refine gm_callS [.int .i64 num] (by kernel_rfl) rfl rfl (fun w1 hw1 hF1 => (BG.out w1 hF1).mono ?_)
    rintro e w2 ⟨rfl, hf, hu⟩
    refine ⟨_, rfl, GrS.of_upd hu (by simp), ((fun w => LgS w F B g q p bb cb v s1 l1)), ((fun w w' hg h => h.keep hg.upd)), (hf), ?_⟩
    clear hw1 hF1 hf hu w1 w2
    try go_frame
    refine gm_callS [.pointer (some ⟨q, 0, none⟩), .int .i64 ((512 * k : Nat) : Int), .string ⟨(begL num).toArray⟩] (by kernel_rfl) rfl rfl (fun w1 hw1 hF1 => (PW.out w1 hF1).mono ?_)
    rintro e w2 ⟨rfl, hf, hu⟩
    refine ⟨_, rfl, GrS.of_upd hu (by simp), ((fun w => LgS w F B g q p bb cb v r1 l1)), ((fun w w' hg h => h.keep hg.upd)), (hf), ?_⟩
    clear hw1 hF1 hf hu w1 w2
    try go_frame
    refine gm_nil ?_
    intro w9 hw9 hF9
    simp only [List.drop]
    try go_frame

    have H9 := Box.mk hF9; have U9 := Box.mk (U1.out.trans ((Upd.refl [g, p, bb, cb] w1).drew.trans (hw9.upd.mono (T := [g, p, bb, cb]) (fun k hk => List.mem_cons_of_mem _ hk))))
    clear hF9 hw9
    go_wp2_with fail
    refine (ltold_any g q v l1 r2 _ H9.out.lg H9.out.vg).mono ?_
    rintro e w2 ⟨rfl, hl, hu⟩
    have H10 := Box.mk (H9.out.own hl hu); have U10 := Box.mk (U9.out.trans (hu.mono (T := [g, p, bb, cb]) (by simp)))
    clear hl hu H9 U9
    by_cases hr : r2 = 0
    · have hrb : (r2 != 0) = false := by simpa using hr
      have hm := HM.out
      rw [if_neg (by simpa using hr)] at hm
      have PZ := Box.mk (lpwrite_any g q p bb cb F B v r1 (l1.told r2) (512 * k + 7) [0] w2 H10.out (by have := HK.out; omega) (by simp))
      generalize r1.pwrite F B ((512 * k + 7 : Nat) : Int) [0] = z at PZ hm
      obtain ⟨z1, z2⟩ := z
      dsimp only at PZ hm
      have HM := Box.mk hm
      clear hm hr
      obtain ⟨d0, d1, d2⟩ := H10.out.lg.cells
      go_wp2_with fail
      rw [show wrap64 (512 * (k : Int) + 7) = ((512 * k + 7 : Nat) : Int) by have := HK.out; rw [IntWalk.wrap64_in] <;> omega]
      refine PZ.out.mono ?_
      rintro e w3 ⟨rfl, h3, u3⟩
      have H11 := Box.mk h3; have U11 := Box.mk (U10.out.trans (u3.mono (T := [g, p, bb, cb]) (fun k hk => List.mem_cons_of_mem _ hk)))
      clear h3 u3 H10 U10
      go_wp2_with fail
      refine (ltold_any g q v _ z2 _ H11.out.lg H11.out.vg).mono ?_
      rintro e w4 ⟨rfl, hl, hu⟩
      have H12 := Box.mk (H11.out.own hl hu); have U12 := Box.mk (U11.out.trans (hu.mono (T := [g, p, bb, cb]) (by simp)))
      clear hl hu H11 U11
      by_cases hz : z2 = 0
      · have hzb : (z2 != 0) = false := by simpa using hz
        have hm := HM.out
        rw [if_neg (by simpa using hz)] at hm
        have HM := Box.mk hm
        clear hm hz
        have f1 := H12.out.lg.free 1
        obtain ⟨d0, d1, d2⟩ := H12.out.lg.cells
        obtain ⟨i0, hi0, hz0, hsz0, hby0⟩ := info_parts info_tseg
        have hsl : ((l1.told r2).told z2).segs = l1.segs := rfl
        have AP := run_append_fresh (P := Tryz.prog) (w4.alloc (.cells #[.int .i64 (k : Int), .int .i64 (num : Int)] 78)) 71 71 78 i0 _ 2 16 Tryz.underlying71 hi0 hz0 hsz0 hby0 rfl (by decide) v l1.segs.length (segC l1.segs) (own_alloc H12.out.lg.own _) ⟨w4.heap.size, 0, none⟩ 1 1 [.int .i64 (k : Int), .int .i64 (num : Int)] rfl (two_newR w4 _ _ _) (two_oneR _ _) (by decide) (by have := SG.out; omega) (by decide)
        obtain ⟨v', w', r1', r2', r3', k', hk', hf'⟩ := AP
        obtain ⟨gn, cn, vn⟩ : ∃ gn cn, v' = .slice (some ⟨gn, 0, none⟩) (l1.segs.length + 1) cn := by
          rcases r2'.2 with ⟨_, h0⟩ | ⟨gn, cn, _, h0, _⟩
          · omega
          · exact ⟨gn, cn, h0⟩
        subst vn
        have rg : w'.heap[g]? = some (.cells #[.pointer (some ⟨q, 0, none⟩), v, .bool ((l1.told r2).told z2).dead] 73 (0, 0)) := (r3'.block g (Nat.lt_of_lt_of_le H12.out.lg.lt (by simp)) (fun e => H12.out.vg g e.symm rfl)).trans ((heap_alloc_old _ _ H12.out.lg.lt).trans H12.out.lg.row)
        have f1' : w'.frozen? ⟨g, 1, none⟩ = false := frozen_of_row _ _ _ _ _ rg
        have e1' : w'.cell? ⟨g, 1, none⟩ = some v := (cell_of_row _ _ _ _ _ _ rg).trans rfl
        go_wp2_with (at_builtin; refine wpList_append_run rfl (.tmp 47) (.tmp 51) 71 rfl (v1 := v) (v2 := .slice (some ⟨w4.heap.size, 0, none⟩) 1 1) rfl rfl r1' ?_)
        go_ret
        rw [HM.out]
        have hne : gn ≠ g ∧ gn ∉ [g, q, p, bb, cb] := by
          have hkg : k' = gn := by simp [Value.ownBlock] at hk'; omega
          subst hkg
          have hnot : k' ∉ [g, q, p, bb, cb] := by
            rcases hf' with h | h
            · exact H12.out.ap.hv _ h
            · have q1 := H12.out.f.lt; have q2 := H12.out.pa.lt; have q3 := H12.out.lg.lt
              rw [World.size_alloc] at h
              simp only [List.mem_cons, List.not_mem_nil, or_false, not_or]; omega
          exact ⟨fun e => hnot (by rw [e]; exact List.mem_cons_self ..), hnot⟩
        have ug : Upd v.ownBlock.toList w4 w' := ⟨r3'.os, r3'.tape, r3'.output, Nat.le_trans (by simp) r3'.size, fun i hi hn => (r3'.block i (Nat.lt_of_lt_of_le hi (by simp)) (fun e => hn (by rw [← e]; simp))).trans (heap_alloc_old _ _ hi)⟩
        have nv : ∀ j, j ∈ [q, p, bb, cb] → j ∉ g :: v.ownBlock.toList := fun j hj hm => by
          rcases List.mem_cons.1 hm with rfl | hm
          · have := H12.out.ap.nm
            simp only [List.mem_cons, List.not_mem_nil, or_false] at hj; omega
          · exact H12.out.ap.hv j (by simpa using hm) (List.mem_cons_of_mem _ hj)
        have u2 := (ug.mono (T := g :: v.ownBlock.toList) (fun j hj => List.mem_cons_of_mem _ hj)).setCell (p := ⟨g, 1, none⟩) (.inl (List.mem_cons_self ..)) (.slice (some ⟨gn, 0, none⟩) (l1.segs.length + 1) cn)
        refine ⟨rfl, ⟨.slice (some ⟨gn, 0, none⟩) (l1.segs.length + 1) cn, ⟨⟨H12.out.ap.hq, H12.out.ap.hg, fun j hj => ?_⟩, H12.out.f.upd u2 (nv _ (by simp)) (nv _ (by simp)) (nv _ (by simp)), H12.out.ok, H12.out.pa.upd u2 (nv _ (by simp)), H12.out.i, ⟨?_, ?_⟩⟩, fun j hj => ?_⟩, ?_⟩
        · simp [Value.ownBlock] at hj; subst hj; exact hne.2
        · rw [heap_setCell_same _ _ _ _ _ _ rg]; rfl
        · dsimp only
          rw [hsl, List.length_append, segC_app]
          exact own_keep r2' fun j hj _ => heap_setCell_other _ _ _ _ (by simp [Value.ownBlock] at hj; subst hj; exact hne.1)
        · have h4 := (U12.out).size
          rw [World.size_alloc] at hf'
          have hkg : k' = j := by rw [hk'] at hj; exact Option.some.inj hj
          subst hkg
          rcases hf' with h | h
          · exact .inl h
          · exact .inr (by omega)
        · exact (U12.out.mono (by simp [fp])).trans (u2.mono (fun j hj => by
            rcases List.mem_cons.1 hj with rfl | hj
            · exact List.mem_cons_self ..
            · unfold fp; simp only [List.mem_cons]; exact .inr (.inr (.inr (.inr hj)))))
      · have hzb : (z2 != 0) = true := by rw [bne_iff_ne]; exact hz
        have hm := HM.out
        rw [if_pos hz] at hm
        have HM := Box.mk hm
        clear hm hz
        obtain ⟨rfl⟩ := HM
        go_wp2_with fail
        go_ret
        exact ⟨rfl, ⟨v, H12.out, fun j hj => .inl hj⟩, U12.out.mono (by simp [fp])⟩
    · have hrb : (r2 != 0) = true := by rw [bne_iff_ne]; exact hr
      have hm := HM.out
      rw [if_pos hr] at hm
      have HM := Box.mk hm
      clear hm hr
      obtain ⟨rfl⟩ := HM
      go_wp2_with fail
      go_ret
      exact ⟨rfl, ⟨v, H10.out, fun j hj => .inl hj⟩, U10.out.mono (by simp [fp])⟩
  · have hb1 : (e1 != 0) = true := by rw [bne_iff_ne]; exact he1
    have hm := HM.out
    rw [if_pos he1] at hm
    have HM := Box.mk hm
    clear hm he1
    obtain ⟨rfl⟩ := HM
    go_enter Tryz.func53, Tryz.ntmps53
    go_wp2_with fail
    refine CL.out.mono ?_
    rintro e w1 ⟨rfl, h1, u1⟩
    have H1 := Box.mk h1; have U1 := Box.mk u1; clear h1 u1
    go_wp2_with fail
    go_ret
    exact ⟨rfl, ⟨v, H1.out, fun j hj => .inl hj⟩, U1.out.mono (by simp [fp])⟩
end Go.Proofs.YtjednaendedpdaaGreat
namespace Go.Proofs.YtjednaendedpdaaGreat
set_option maxRecDepth 100000
set_option linter.unusedVariables false
open Go Go.RowKit

section
variable {P : Program} {W : World} {S : List Nat} {T : (World → Prop) → List Nat → Act → Prop} {L : List (Oper × Kd)} {F : World → Prop} {N : List Nat} {a : Act} {o : Oper}
/-- A field of a value. -/
theorem gm_sel {ty : TypeId} (x : Operand) (i : Nat) (ho : o.op = .field ty x i) (vx : Value) (hx : a.eval x = vx) (v : Value) (hr : ∀ w, (Instr.field ty vx i).run P w = .ok v w)
    (h : wpG P W S T L F N (a.put o.dst v)) : wpG P W S T ((o, .flo) :: L) F N a :=
  gm_flo v (fun w hw => by unfold execOp; simp only [ho, hx, Sem.run_bind, hr w, Result.andThen_ok, Sem.run_pure]) h
end
theorem seg_fld (x y : Int) (w : World) : (Instr.field 78 (.agg #[.int .i64 x, .int .i64 y]) 0).run Tryz.prog w = .ok (.int .i64 x) w ∧ (Instr.field 78 (.agg #[.int .i64 x, .int .i64 y]) 1).run Tryz.prog w = .ok (.int .i64 y) w := ⟨by kernel_rfl, by kernel_rfl⟩
theorem cellA {w : World} {a : Addr} {v : Value} (o : Obj) (h : w.cell? a = some v) : (w.alloc o).cell? a = some v := (World.cell?_alloc_some w a o (by rw [h]; rfl)).trans h
/-- A segment's cells. -/
theorem Lg.seg {w : World} {g q : Nat} {v : Value} {l : LS} (h : Lg w g q v l) (hne : l.segs ≠ []) : ∃ gs cap, v = .slice (some ⟨gs, 0, none⟩) l.segs.length cap ∧ ∀ j s, l.segs[j]? = some s → w.cell? ⟨gs, j * 2, none⟩ = some (.int .i64 (s.1 : Int)) ∧ w.cell? ⟨gs, j * 2 + 1, none⟩ = some (.int .i64 (s.2 : Int)) := by
  rcases h.own.2 with ⟨_, h0⟩ | ⟨gs, cap, cur, hv, _⟩
  · exact absurd (List.eq_nil_of_length_eq_zero (by omega)) hne
  · subst hv
    refine ⟨gs, cap, rfl, fun j s hj => ?_⟩
    obtain ⟨h1, h2⟩ := segC_at l.segs j s hj
    have hl := (List.getElem?_eq_some_iff.1 hj).1
    rw [Nat.mul_comm] at h1 h2
    exact ⟨(h.own.cellAt _ (by omega)).trans h1, (h.own.cellAt _ (by omega)).trans h2⟩
theorem LS.newest_at {l : LS} (hne : l.segs ≠ []) : ∃ k, l.segs.length = k + 1 ∧ l.segs[k]? = some l.newest := by
  have : 0 < l.segs.length := List.length_pos_iff.2 hne
  refine ⟨l.segs.length - 1, by omega, ?_⟩
  unfold LS.newest
  rw [List.getD_eq_getElem?_getD, List.getElem?_eq_getElem (by omega)]; rfl
def segV (s : Nat × Nat) : Value := .agg #[.int .i64 (s.1 : Int), .int .i64 (s.2 : Int)]
set_option maxHeartbeats 1000000 in
theorem newest_any (g q : Nat) (v : Value) (l : LS) (w : World) (h : Lg w g q v l) (hne : l.segs ≠ []) (hl : l.segs.length ≤ 1000000) :
    Calls Tryz.prog 52 #[.pointer (some ⟨g, 0, none⟩)] w fun e w' => e = .returned (segV l.newest) ∧ Below w.heap.size w w' := by
  obtain ⟨gs, cap, rfl, hs⟩ := h.seg hne
  obtain ⟨k, hk, hn⟩ := LS.newest_at hne
  obtain ⟨s0, s1⟩ := hs k _ hn
  obtain ⟨c0, c1, c2⟩ := h.cells
  have hwk : IntKind.i64.wrap (k : Int) = (k : Int) := by rw [IntKind.wrap_i64]; omega
  have hkI : (k : Int) < (k : Int) + 1 := by omega
  rw [hk] at c1
  generalize l.newest = nn at s0 s1 ⊢
  have hgs : gs < w.heap.size := (World.ownsRow.lt h.own gs rfl).2
  have A0 := cellA (.cells #[.int .i64 0, .int .i64 0] 78) c1
  have A1 := cellA (.cells #[.int .i64 0, .int .i64 0] 78) s0
  have A2 := cellA (.cells #[.int .i64 0, .int .i64 0] 78) s1
  clear h hs hne hl hn
  go_enter Tryz.func52, Tryz.ntmps52
  go_wp2_with fail
  go_region
  go_wp2_with fail
  refine bodyPost_ret (results_cell_row (p := 2) (ty := 78) rfl _ _ w.heap.size 78 #[.int .i64 (nn.1 : Int), .int .i64 (nn.2 : Int)] (0, 0) _ rfl (by exact heap_alloc_new _ _) Tryz.underlying78 rfl (by kernel_rfl)) rfl ⟨rfl, ((Below.refl _ _).alloc (Nat.le_refl _) _).drew⟩
/-- A log's segments lie in the part. -/
structure LS.Ok (l : LS) (B : Nat) : Prop where
  ne : l.segs ≠ []
  few : l.segs.length ≤ B
  blk : ∀ x ∈ l.segs, x.1 < B
theorem LS.newest_mem {l : LS} (hne : l.segs ≠ []) : l.newest ∈ l.segs := by
  obtain ⟨k, _, h⟩ := LS.newest_at hne
  exact List.mem_of_getElem? h
theorem lnewest_any (g q p bb cb : Nat) (F B : Int) (v : Value) (s : FS) (l : LS) (w : World) (h : LgS w F B g q p bb cb v s l) (hne : l.segs ≠ []) (hl : l.segs.length ≤ 1000000) :
    Calls Tryz.prog 52 #[.pointer (some ⟨g, 0, none⟩)] w fun e w' => e = .returned (.agg #[.int .i64 (l.newest.1 : Nat), .int .i64 (l.newest.2 : Nat)]) ∧ LgS w' F B g q p bb cb v s l ∧ Upd [] w w' :=
  (newest_any g q v l w h.lg hne hl).mono fun e w' ⟨he, hb⟩ => ⟨he, h.keep (Upd.of_below hb), Upd.of_below hb⟩
theorem lpclean_any (g q p bb cb : Nat) (F B : Int) (v : Value) (s : FS) (l : LS) (a n : Nat) (w : World) (h : LgS w F B g q p bb cb v s l) (ha : a ≤ 1000000) (hn : n ≤ 1000000) :
    Calls Tryz.prog 68 #[.pointer (some ⟨q, 0, none⟩), .int .i64 (a : Nat), .int .i64 (n : Nat)] w fun e w' => e = .returned (.tuple #[.bool (pcleanV s F B a n).1, .int .i64 (pcleanV s F B a n).2]) ∧ LgS w' F B g q p bb cb v s l ∧ Upd [] w w' :=
  (pclean_any q p bb cb F B s a n w h.f h.ok h.pa h.i (by omega) (by omega)).mono fun e w' ⟨he, hw⟩ => ⟨he, hw ▸ h, hw ▸ Upd.refl _ _⟩
theorem lfree_any (g q p bb cb : Nat) (F : Int) (B : Nat) (v : Value) (s : FS) (l : LS) (w : World) (h : LgS w F B g q p bb cb v s l) (hl : l.segs.length ≤ B) :
    Calls Tryz.prog 36 #[.pointer (some ⟨g, 0, none⟩)] w fun e w' => e = .returned (.int .i64 ((B - l.segs.length : Nat) : Int)) ∧ LgS w' F B g q p bb cb v s l ∧ Upd [] w w' := by
  obtain ⟨c0, c1, c2⟩ := h.lg.cells
  have H := Box.mk h
  have BL := Box.mk (fun n => lblocks_any g q p F B s.n.length v l (w.drewN n) (h.keep ((Upd.refl [] w).drewN n)).lg (h.keep ((Upd.refl [] w).drewN n)).pa h.i)
  have hB : (B : Int) ≤ 256 := by have h1 := h.i.hi; have h2 := h.i.lo; have h3 := h.i.few; omega
  obtain ⟨cap, gs, hv⟩ : ∃ cap a, v = .slice a l.segs.length cap := by
    rcases h.lg.own.2 with ⟨h0, h1⟩ | ⟨gs, cap, cur, hv, _⟩
    · exact ⟨0, none, by rw [h0, h1]⟩
    · exact ⟨cap, some ⟨gs, 0, none⟩, hv⟩
  subst hv
  have hw : IntKind.i64.wrap ((B : Int) - (l.segs.length : Int)) = ((B - l.segs.length : Nat) : Int) := by rw [IntKind.wrap_i64]; omega
  obtain ⟨k, hkk⟩ : ∃ k, k = l.segs.length := ⟨_, rfl⟩
  rw [← hkk] at c1 hw H hl ⊢
  clear h hl c0 c2 hkk
  go_enter Tryz.func36, Tryz.ntmps36
  go_wp2_with fail
  go_quiet ((go_at_call 26; exact quiet_calls (BL.out _)))
  go_wp2_with fail
  go_ret
  exact ⟨rfl, H.out.keep ((Upd.refl [] w).drewN _), (Upd.refl [] w).drewN _⟩
/-- Which cleanness a page of the newest segment has. -/
theorem clean_page {s : FS} {F B b p : Nat} (hd : s.dead = false) (hb : b < B) (hp : p < 8) : pcleanV s F B ((512 * b + 64 * p : Nat) : Int) 64 = (clnL (s.blk F b) (7 - p), 0) := by
  have hin : inB (B : Int) ((512 * b + 64 * p : Nat) : Int) 64 = true := by rw [inB_iff]; omega
  unfold pcleanV preadV
  rw [if_pos hin, hd]
  simp only [Bool.false_eq_true, if_false, if_true]
  have e : (512 * (F : Int) + ((512 * b + 64 * p : Nat) : Int)).toNat = 512 * (F + b) + 64 * p := by omega
  rw [e]
  have hc : ((s.blk F b).drop (64 * p)).take 64 = (s.b.drop (512 * (F + b) + 64 * p)).take 64 := by
    unfold FS.blk
    rw [List.drop_take, List.drop_drop, List.take_take, show min 64 (512 - 64 * p) = 64 by omega]
  show ((((ffs _ : Nat) : Int) == ((ByteArray.size _ : Nat) : Int)), (0 : Int)) = _
  congr 1
  unfold clnL
  rw [show 7 - (7 - p) = p by omega, hc]
  rw [show (64 : Int).toNat = 64 from rfl]
  generalize (s.b.drop (512 * (F + b) + 64 * p)).take 64 = x
  rw [show (ByteArray.size ⟨x.toArray⟩ : Nat) = x.length from rfl, Bool.eq_iff_iff, beq_iff_eq, List.all_eq_true]
  constructor
  · intro h u hu
    obtain ⟨k, hk, hk2⟩ := List.mem_iff_getElem.1 hu
    have := ffs_lt x h k hk
    rw [List.getElem?_eq_getElem hk, hk2] at this
    rw [beq_iff_eq]; exact Option.some.inj this
  · intro h
    rw [ffs_all x fun k hk => by rw [List.getElem?_eq_getElem hk]; exact congrArg some (beq_iff_eq.1 (h _ (List.getElem_mem hk)))]
set_option maxHeartbeats 2000000 in
theorem lroom_any (g q p bb cb : Nat) (F B : Nat) (v : Value) (s : FS) (l : LS) (w : World) (h : LgS w (F : Nat) (B : Nat) g q p bb cb v s l) (hk : l.Ok B) :
    Calls Tryz.prog 37 #[.pointer (some ⟨g, 0, none⟩)] w fun e w' => e = .returned (.int .i64 ((s.lroom F l : Nat) : Int)) ∧ LgS w' (F : Nat) (B : Nat) g q p bb cb v s l ∧ Upd [] w w' := by
  have hB : B ≤ 256 := by have h1 := h.i.hi; have h2 := h.i.lo; have h3 := h.i.few; omega
  have hnb : l.newest.1 < B := hk.blk _ (LS.newest_mem hk.ne)
  have NW := Box.mk (fun w h => lnewest_any g q p bb cb (F : Nat) (B : Nat) v s l w h hk.ne (by have := hk.few; omega))
  have CP := Box.mk (fun (hd : s.dead = false) p (hp : p < 8) => clean_page (F := F) hd hnb hp)
  obtain ⟨R, hR⟩ : ∃ R, R = s.lroom F l := ⟨_, rfl⟩
  rw [← hR]
  have HR0 := Box.mk hR
  have H0 := Box.mk h
  unfold FS.lroom at HR0
  obtain ⟨nn, hnn⟩ : ∃ n, n = l.newest := ⟨_, rfl⟩
  rw [← hnn] at NW CP HR0 hnb
  obtain ⟨nb, nv⟩ := nn
  dsimp only at NW CP HR0 hnb
  have hnI : (nb : Int) < 256 := by omega
  have HNB := Box.mk hnb
  clear h hk hR hnb hnn
  go_enter Tryz.func37, Tryz.ntmps37
  go_wp2_with fail
  go_loopw [3, 4] (fun n i wr => ∃ j : Nat, j ≤ 7 ∧ n = .int .i64 (j : Nat) ∧ i = .int .i64 ((7 - j : Nat) : Int) ∧ (s.dead = false → ∀ k, k < j → clnL (s.blk F nb) k = true) ∧ (s.dead = true → j = 0) ∧ LgS wr (F : Nat) (B : Nat) g q p bb cb v s l ∧ Upd [] w wr) (fun _ i _ => (intOf i).toNat)
  case atStart => exact ⟨0, by omega, rfl, rfl, fun _ k hk => absurd hk (by omega), fun _ => rfl, H0.out, Upd.refl _ _⟩
  case round =>
    obtain ⟨j, hj, rfl, rfl, hall, hdd, hs, hu⟩ := hrel
    have HR := Box.mk hs; have HU := Box.mk hu; have HA := Box.mk hall; have HD := Box.mk hdd
    clear hs hu hall hdd
    by_cases h7 : j < 7
    · have hgo : 0 < ((7 - j : Nat) : Int) := by omega
      have hlt7 : ((7 - j : Nat) : Int) ≤ 7 := by omega
      obtain ⟨t, ht⟩ : ∃ t, t = 7 - j := ⟨_, rfl⟩
      rw [← ht] at hgo hlt7 ⊢
      obtain ⟨a, ha, HA1⟩ : ∃ a : Nat, IntKind.i64.wrap ((nb : Int) * 512) = (a : Int) ∧ Box (a = 512 * nb) := ⟨512 * nb, by rw [IntKind.wrap_i64]; omega, ⟨rfl⟩⟩
      obtain ⟨b, hb, HA2⟩ : ∃ b : Nat, IntKind.i64.wrap ((t : Int) * 64) = (b : Int) ∧ Box (b = 64 * t) := ⟨64 * t, by rw [IntKind.wrap_i64]; omega, ⟨rfl⟩⟩
      obtain ⟨c, hc, HA3⟩ : ∃ c : Nat, IntKind.i64.wrap ((a : Int) + (b : Int)) = (c : Int) ∧ Box (c = 512 * nb + 64 * t) := ⟨512 * nb + 64 * t, by rw [IntKind.wrap_i64, HA1.out, HA2.out]; omega, ⟨rfl⟩⟩
      have CL := Box.mk (fun w h => lpclean_any g q p bb cb (F : Nat) (B : Nat) v s l c 64 w h (by have := HA3.out; omega) (by omega))
      have HT := Box.mk ht
      clear ht
      go_wp2_with fail
      refine wp_region_mixS [] (fun w => LgS w (F : Nat) (B : Nat) g q p bb cb v s l) (fun w w' hg h => h.keep hg.upd) (HR.out.keep (Upd.refl [] wr).drew) ((by simp)) 16 [.flo, .flo, .flo, .flo, .flo, .cha, .flo, .flo, .flo, .flo, .flo, .cha, .flo, .flo, .flo, .flo] (by kernel_rfl) (by kernel_rfl) rfl ?_
      simp only [List.take, List.zip, List.zipWith]
      try go_frame
      refine gm_move (.tmp 0) (.inl rfl) (.pointer (some ⟨g, 0, none⟩)) rfl ?_
      try go_frame
      refine gm_flo (.pointer (some ⟨g, 0, none⟩)) (fun w1 hw1 => ?_) ?_
      case refine_1 =>
        go_simp
      try go_frame
      refine gm_flo (.pointer (some ⟨g, 0, none⟩)) (fun w1 hw1 => ?_) ?_
      case refine_1 =>
        go_simp
      try go_frame
      refine gm_flo (.pointer (some ⟨q, 0, none⟩)) (fun w1 hw1 => ?_) ?_
      case refine_1 =>
        have e1 : w1.cell? ⟨g, 0, none⟩ = some (.pointer (some ⟨q, 0, none⟩)) := (cell_of_row _ _ _ _ _ _ (hw1.at ((by simp)) HR.out.lg.row)).trans rfl
        go_simp
      try go_frame
      refine gm_move (.tmp 0) (.inl rfl) (.pointer (some ⟨g, 0, none⟩)) rfl ?_
      try go_frame
      refine gm_callS [.pointer (some ⟨g, 0, none⟩)] (by kernel_rfl) rfl rfl (fun w1 hw1 hF1 => (NW.out w1 hF1).mono ?_)
      rintro e w2 ⟨rfl, hf, hu⟩
      refine ⟨_, rfl, GrS.of_upd hu (by simp), ((fun w => LgS w (F : Nat) (B : Nat) g q p bb cb v s l)), ((fun w w' hg h => h.keep hg.upd)), (hf), ?_⟩
      clear hw1 hF1 hf hu w1 w2
      try go_frame
      refine gm_sel (.tmp 17) 0 rfl _ rfl (.int .i64 (nb : Nat)) (fun w => (seg_fld _ _ w).1) ?_
      try go_frame
      refine gm_flo (.int .i64 (a : Nat)) (fun w1 hw1 => ?_) ?_
      case refine_1 =>
        go_simp
      try go_frame
      refine gm_move (.tmp 4) (.inl rfl) (.int .i64 (t : Nat)) rfl ?_
      try go_frame
      refine gm_flo (.int .i64 (b : Nat)) (fun w1 hw1 => ?_) ?_
      case refine_1 =>
        go_simp
      try go_frame
      refine gm_flo (.int .i64 (c : Nat)) (fun w1 hw1 => ?_) ?_
      case refine_1 =>
        go_simp
      try go_frame
      refine gm_callS [.pointer (some ⟨q, 0, none⟩), .int .i64 (c : Nat), .int .i64 64] (by kernel_rfl) rfl rfl (fun w1 hw1 hF1 => (CL.out w1 hF1).mono ?_)
      rintro e w2 ⟨rfl, hf, hu⟩
      refine ⟨_, rfl, GrS.of_upd hu (by simp), ((fun w => LgS w (F : Nat) (B : Nat) g q p bb cb v s l)), ((fun w w' hg h => h.keep hg.upd)), (hf), ?_⟩
      clear hw1 hF1 hf hu w1 w2
      try go_frame
      refine gm_move (.tmp 23) (.inl rfl) (.tuple #[.bool (pcleanV s (F : Nat) (B : Nat) (c : Nat) 64).1, .int .i64 (pcleanV s (F : Nat) (B : Nat) (c : Nat) 64).2]) rfl ?_
      try go_frame
      refine gm_extract (vs := #[.bool (pcleanV s (F : Nat) (B : Nat) (c : Nat) 64).1, .int .i64 (pcleanV s (F : Nat) (B : Nat) (c : Nat) 64).2]) (.tmp 11) 0 rfl rfl (.bool (pcleanV s (F : Nat) (B : Nat) (c : Nat) 64).1) rfl ?_
      try go_frame
      refine gm_extract (vs := #[.bool (pcleanV s (F : Nat) (B : Nat) (c : Nat) 64).1, .int .i64 (pcleanV s (F : Nat) (B : Nat) (c : Nat) 64).2]) (.tmp 11) 1 rfl rfl (.int .i64 (pcleanV s (F : Nat) (B : Nat) (c : Nat) 64).2) rfl ?_
      try go_frame
      refine gm_move (.tmp 24) (.inr rfl) (.bool (pcleanV s (F : Nat) (B : Nat) (c : Nat) 64).1) rfl ?_
      try go_frame
      refine gm_nil ?_
      intro w9 hw9 hF9
      simp only [List.drop]
      try go_frame
      have H9 := Box.mk hF9; have U9 := Box.mk (HU.out.trans ((Upd.refl [] wr).drew.trans hw9.upd))
      clear hF9 hw9
      cases hdd : s.dead with
      | true =>
        have hv : pcleanV s (F : Nat) (B : Nat) (c : Nat) (64 : Nat) = (false, 2) := by
          unfold pcleanV preadV
          rw [if_pos ((inB_iff _ _ _).2 (by have := HA3.out; have := HT.out; have := HNB.out; omega)), hdd]; rfl
        rw [show (64 : Int) = ((64 : Nat) : Int) from rfl, hv]
        have hr := HR0.out
        rw [hdd, if_pos rfl] at hr
        have HR1 := Box.mk hr
        clear hr hv hdd
        go_wp2_with fail
        go_ret
        exact ⟨by rw [HR1.out]; rfl, H9.out, U9.out⟩
      | false =>
        have hv : pcleanV s (F : Nat) (B : Nat) (c : Nat) (64 : Nat) = (clnL (s.blk F nb) j, 0) := by
          rw [HA3.out, show (((64 : Nat)) : Int) = (64 : Int) from rfl, CP.out hdd t (by have := HT.out; omega), show 7 - t = j by have := HT.out; omega]
        rw [show (64 : Int) = ((64 : Nat) : Int) from rfl, hv]
        have hr := HR0.out
        rw [hdd, if_neg (by decide)] at hr
        have HDD := Box.mk hdd
        cases hcl : clnL (s.blk F nb) j with
        | true =>
          have HCL := Box.mk hcl
          have HT1 : ((t : Int) - 1) = ((7 - (j + 1) : Nat) : Int) := by have := HT.out; omega
          have hwt : IntKind.i64.wrap ((t : Int) - 1) = ((7 - (j + 1) : Nat) : Int) := by rw [IntKind.wrap_i64]; omega
          clear hr hv hdd hcl
          go_wp2_with fail
          exact ⟨⟨j + 1, by omega, by go_num, by first | rfl | (congr 1; omega), fun _ k hk => by
            rcases Nat.lt_succ_iff_lt_or_eq.1 hk with h | rfl
            · exact HA.out HDD.out k h
            · exact HCL.out, fun h => absurd (h.symm.trans HDD.out) (by decide), H9.out, U9.out⟩, by have := HT.out; simp [intOf]; omega⟩
        | false =>
          have HR1 : Box (R = j) := ⟨by rw [hr]; exact runB_spec _ _ _ (by omega) (HA.out hdd) (.inr hcl)⟩
          clear hr hv hdd hcl
          go_wp2_with fail
          go_ret
          exact ⟨by rw [HR1.out]; rfl, H9.out, U9.out⟩
    · have hgo : ¬ 0 < ((7 - j : Nat) : Int) := by omega
      have HR1 : Box (R = j) := ⟨by
        rw [HR0.out]
        cases hdd : s.dead with
        | true => rw [if_pos rfl]; exact (HD.out hdd).symm
        | false => rw [if_neg (by decide)]; exact runB_spec _ _ _ hj (HA.out hdd) (.inl (by omega))⟩
      go_wp2_with fail
      go_ret
      exact ⟨by rw [HR1.out]; rfl, HR.out, HU.out⟩
end Go.Proofs.YtjednaendedpdaaGreat
namespace Go.Proofs.YtjednaendedpdaaGreat
set_option maxRecDepth 100000
set_option linter.unusedVariables false
open Go Go.RowKit

/-- m segments from a block and a number on. -/
def chainL (B b0 n0 m : Nat) : List (Nat × Nat) := (List.range m).map fun i => ((b0 + i) % B, n0 + i)
theorem chainL_len (B b0 n0 m : Nat) : (chainL B b0 n0 m).length = m := by simp [chainL]
theorem chainL_at (B b0 n0 m i : Nat) (h : i < m) : (chainL B b0 n0 m)[i]? = some ((b0 + i) % B, n0 + i) := by simp [chainL, h]
theorem chainL_succ (B b0 n0 m : Nat) : chainL B b0 n0 (m + 1) = chainL B b0 n0 m ++ [((b0 + m) % B, n0 + m)] := by simp [chainL, List.range_succ]
theorem chainL_mem {B b0 n0 m : Nat} {x : Nat × Nat} (h : x ∈ chainL B b0 n0 m) : ∃ i, i < m ∧ x = ((b0 + i) % B, n0 + i) := by
  unfold chainL at h
  obtain ⟨i, hi, rfl⟩ := List.mem_map.1 h
  exact ⟨i, List.mem_range.1 hi, rfl⟩
theorem chainL_in {B b0 n0 m i : Nat} (h : i < m) : ((b0 + i) % B, n0 + i) ∈ chainL B b0 n0 m := List.mem_map.2 ⟨i, List.mem_range.2 h, rfl⟩
theorem mod_ne {B b0 i j : Nat} (hi : i < B) (hj : j < B) (h : (b0 + i) % B = (b0 + j) % B) : i = j := by
  have h1 := Nat.div_add_mod (b0 + i) B
  have h2 := Nat.div_add_mod (b0 + j) B
  rw [h] at h1
  rcases Nat.lt_trichotomy ((b0 + i) / B) ((b0 + j) / B) with hq | hq | hq
  · have : B * ((b0 + i) / B) + B ≤ B * ((b0 + j) / B) := by rw [← Nat.mul_succ]; exact Nat.mul_le_mul_left _ hq
    omega
  · rw [hq] at h1; omega
  · have : B * ((b0 + j) / B) + B ≤ B * ((b0 + i) / B) := by rw [← Nat.mul_succ]; exact Nat.mul_le_mul_left _ hq
    omega
theorem chainL_tail (B b0 n0 m : Nat) (hB : 0 < B) : (chainL B b0 n0 (m + 1)).eraseIdx 0 = chainL B ((b0 + 1) % B) (n0 + 1) m := by
  rw [List.eraseIdx_zero]
  apply List.ext_getElem?; intro i
  rw [List.getElem?_tail]
  by_cases hi : i < m
  · rw [chainL_at _ _ _ _ _ hi, chainL_at _ _ _ _ _ (by omega)]
    have : (b0 + (i + 1)) % B = ((b0 + 1) % B + i) % B := by rw [Nat.mod_add_mod]; congr 1; omega
    rw [this, show n0 + (i + 1) = n0 + 1 + i by omega]
  · rw [List.getElem?_eq_none (by rw [chainL_len]; omega), List.getElem?_eq_none (by rw [chainL_len]; omega)]
theorem chainL_init (B b0 n0 m : Nat) : (chainL B b0 n0 (m + 1)).eraseIdx m = chainL B b0 n0 m := by
  rw [chainL_succ, List.eraseIdx_append_of_length_le (by rw [chainL_len]; exact Nat.le_refl _), chainL_len, Nat.sub_self]; simp
/-- What always holds of a log's bytes. -/
structure LBy (F B : Nat) (s : FS) (segs : List (Nat × Nat)) : Prop where
  ok : s.Ok
  inn : In s.n.length F B
  ch : ∃ b0 n0 m, b0 < B ∧ 1 ≤ n0 ∧ 1 ≤ m ∧ m ≤ B ∧ segs = chainL B b0 n0 m
  hd : ∀ x ∈ segs, numL (s.pg F x.1 0) = x.2
  fr : ∀ b, b < B → (∀ x ∈ segs, x.1 ≠ b) → numL (s.pg F b 0) = 0
  gd : ∀ x ∈ segs, Good (s.blk F x.1)
/-- .. of a log. -/
structure LInv (F B : Nat) (s : FS) (l : LS) : Prop where
  by_ : LBy F B s l.segs
  alive : s.dead = false
  live : l.dead = false
/-- All records of a log. -/
def FS.lall (s : FS) (F : Nat) (segs : List (Nat × Nat)) : List (List UInt8) := segs.flatMap fun x => recN (s.blk F x.1) 7 1
theorem LBy.lok {F B : Nat} {s : FS} {l : LS} (h : LBy F B s l.segs) : l.Ok B := by
  obtain ⟨b0, n0, m, h1, h2, h3, h4, h5⟩ := h.ch
  refine ⟨by rw [h5]; intro e; have := congrArg List.length e; rw [chainL_len] at this; simp at this; omega, by rw [h5, chainL_len]; exact h4, fun x hx => ?_⟩
  rw [h5] at hx
  obtain ⟨i, _, rfl⟩ := chainL_mem hx
  exact Nat.mod_lt _ (by omega)
theorem newest_chain {l : LS} {B b0 n0 m : Nat} (h : l.segs = chainL B b0 n0 (m + 1)) : l.newest = ((b0 + m) % B, n0 + m) := by
  unfold LS.newest
  rw [h, chainL_len, List.getD_eq_getElem?_getD, chainL_at _ _ _ _ _ (by omega)]; rfl
/-- Blocks that stand. -/
theorem pg_congr {s s' : FS} {F b : Nat} (h : ∀ k, k < 64 → s'.b[512 * (F + b) + k]? = s.b[512 * (F + b) + k]?) : s'.pg F b 0 = s.pg F b 0 := by
  apply List.ext_getElem?; intro k
  rw [pg_at, pg_at]; split
  · rename_i hk; rw [Nat.mul_zero, Nat.add_zero]; exact h k hk
  · rfl
theorem blk_congr {s s' : FS} {F b : Nat} (h : ∀ k, k < 512 → s'.b[512 * (F + b) + k]? = s.b[512 * (F + b) + k]?) : s'.blk F b = s.blk F b := by
  apply List.ext_getElem?; intro k
  rw [blk_at, blk_at]; split
  · rename_i hk; exact h k hk
  · rfl
/-- A block's bytes stand where another block's change. -/
theorem blk_far {s s' : FS} {F x b : Nat} (h : ∀ k, (k < 512 * (F + x) ∨ 512 * (F + x) + 512 ≤ k) → s'.b[k]? = s.b[k]?) (hb : b ≠ x) : s'.blk F b = s.blk F b ∧ s'.pg F b 0 = s.pg F b 0 := by
  have hk : ∀ k, k < 512 → s'.b[512 * (F + b) + k]? = s.b[512 * (F + b) + k]? := fun k hk => h _ (by
    rcases Nat.lt_or_gt_of_ne hb with h1 | h1 <;> omega)
  exact ⟨blk_congr hk, pg_congr fun k h64 => hk k (by omega)⟩
theorem lall_congr {s s' : FS} {F : Nat} {segs : List (Nat × Nat)} (h : ∀ x ∈ segs, s'.blk F x.1 = s.blk F x.1) : s'.lall F segs = s.lall F segs := by
  unfold FS.lall
  rw [List.flatMap_def, List.flatMap_def]
  congr 1
  exact List.map_congr_left fun x hx => by rw [h x hx]
theorem lall_app (s : FS) (F : Nat) (a b : List (Nat × Nat)) : s.lall F (a ++ b) = s.lall F a ++ s.lall F b := by unfold FS.lall; rw [List.flatMap_append]
/-- A record is put into the newest segment. -/
theorem LInv.put {F B : Nat} {s : FS} {l : LS} (h : LInv F B s l) {r : List UInt8} (hr : r.length ≤ 400) (hrm : pgs r.length ≤ s.lroom F l) :
    LBy F B (s.lput F B l r).1 l.segs ∧ (s.Still → (s.lput F B l r).2.2 = 0 ∧ (s.lput F B l r).1.Still) ∧ (∀ b, b ≠ l.newest.1 → (s.lput F B l r).1.blk F b = s.blk F b) ∧
    (((s.lput F B l r).2.2 = 0 ∧ (s.lput F B l r).1.dead = false ∧ (s.lput F B l r).2.1 = l ∧ (s.lput F B l r).1.lall F l.segs = s.lall F l.segs ++ [r] ∧ (s.lput F B l r).1.lroom F l = s.lroom F l - pgs r.length) ∨
     ((s.lput F B l r).2.2 = 2 ∧ (s.lput F B l r).1.dead = true ∧ ((s.lput F B l r).1.lall F l.segs = s.lall F l.segs ∨ (s.lput F B l r).1.lall F l.segs = s.lall F l.segs ++ [r]))) := by
  have hk := h.by_.lok
  have hnm := LS.newest_mem hk.ne
  have PO := lput_out (F := F) (B := B) (r := r) h.alive h.by_.ok h.by_.inn (hk.blk _ hnm) hr hrm (h.by_.gd _ hnm)
  obtain ⟨b0, n0, m, h1, h2, h3, h4, h5⟩ := h.by_.ch
  obtain ⟨m, rfl⟩ : ∃ k, m = k + 1 := ⟨m - 1, by omega⟩
  have hnw := newest_chain h5
  generalize s.lput F B l r = R at PO ⊢
  obtain ⟨ok1, n1, len1, out1, gd1, res1, st1⟩ := PO
  have hseg : l.segs = chainL B b0 n0 m ++ [l.newest] := by rw [hnw, h5, chainL_succ]
  have hne : ∀ x ∈ chainL B b0 n0 m, x.1 ≠ l.newest.1 := fun x hx e => by
    obtain ⟨i, hi, rfl⟩ := chainL_mem hx
    rw [hnw] at e
    have := mod_ne (by omega) (by omega) e
    omega
  have hfar : ∀ b, b ≠ l.newest.1 → R.1.blk F b = s.blk F b ∧ R.1.pg F b 0 = s.pg F b 0 := fun b hb => blk_far (fun k hk => out1 k (by omega)) hb
  have hpg : R.1.pg F l.newest.1 0 = s.pg F l.newest.1 0 := pg_congr fun k hk => out1 _ (by omega)
  have hpga : ∀ b, R.1.pg F b 0 = s.pg F b 0 := fun b => by
    by_cases hb : b = l.newest.1
    · rw [hb]; exact hpg
    · exact (hfar b hb).2
  have hla : R.1.lall F (chainL B b0 n0 m) = s.lall F (chainL B b0 n0 m) := lall_congr fun x hx => (hfar _ (hne x hx)).1
  have hall : ∀ t : FS, t.lall F l.segs = t.lall F (chainL B b0 n0 m) ++ recN (t.blk F l.newest.1) 7 1 := fun t => by
    rw [hseg, lall_app]; unfold FS.lall; simp
  refine ⟨⟨ok1, by rw [n1]; exact h.by_.inn, ⟨b0, n0, m + 1, h1, h2, h3, h4, h5⟩, fun x hx => by rw [hpga]; exact h.by_.hd x hx, fun b hb hx => by rw [hpga]; exact h.by_.fr b hb hx, fun x hx => ?_⟩, st1, fun b hb => (hfar b hb).1, ?_⟩
  · by_cases hb : x.1 = l.newest.1
    · rw [hb]; exact gd1
    · rw [(hfar _ hb).1]; exact h.by_.gd x hx
  · rcases res1 with ⟨a, b, c, d, e⟩ | ⟨a, b, c, d⟩
    · refine .inl ⟨a, b, c, by rw [hall, hall, hla, d, List.append_assoc], ?_⟩
      unfold FS.lroom at e ⊢
      rw [b, if_neg (by decide)]; exact e
    · refine .inr ⟨a, b, d.imp (fun d => by rw [hall, hall, hla, d]) (fun d => by rw [hall, hall, hla, d, List.append_assoc])⟩
/-- A segment is made behind the newest one. -/
theorem LInv.mk_ {F B : Nat} {s : FS} {l : LS} (h : LInv F B s l) (hfew : l.segs.length < B) (hnum : l.newest.2 + 1 < 281474976710656) (R : FS × LS × Int) (hR : R = s.lmakes F B l ((l.newest.1 + 1) % B) (l.newest.2 + 1)) :
    (s.Still → R.2.2 = 0 ∧ R.1.Still) ∧ (∀ x ∈ l.segs, x.1 ≠ (l.newest.1 + 1) % B ∧ R.1.blk F x.1 = s.blk F x.1) ∧
    ((R.2.2 = 0 ∧ R.2.1.segs = l.segs ++ [((l.newest.1 + 1) % B, l.newest.2 + 1)] ∧ LInv F B R.1 R.2.1 ∧ R.1.lall F R.2.1.segs = s.lall F l.segs ∧ R.1.lroom F R.2.1 = 7) ∨
     (R.2.2 = 2 ∧ R.1.dead = true ∧ ∃ segs', LBy F B R.1 segs' ∧ R.1.lall F segs' = s.lall F l.segs ∧ (segs' = l.segs ∨ segs' = l.segs ++ [((l.newest.1 + 1) % B, l.newest.2 + 1)]))) := by
  obtain ⟨b0, n0, m, h1, h2, h3, h4, h5⟩ := h.by_.ch
  obtain ⟨m, rfl⟩ : ∃ k, m = k + 1 := ⟨m - 1, by omega⟩
  have hnw := newest_chain h5
  have hlen : m + 1 < B := by rw [h5, chainL_len] at hfew; exact hfew
  have hb : (l.newest.1 + 1) % B = (b0 + (m + 1)) % B := by rw [hnw, Nat.mod_add_mod]; rfl
  have hn : l.newest.2 + 1 = n0 + (m + 1) := by rw [hnw]; rfl
  rw [hb, hn] at hR ⊢
  rw [hn] at hnum
  have hne : ∀ x ∈ l.segs, x.1 ≠ (b0 + (m + 1)) % B := fun x hx e => by
    rw [h5] at hx
    obtain ⟨i, hi, rfl⟩ := chainL_mem hx
    have := mod_ne (by omega) (by omega) e
    omega
  have hbB : (b0 + (m + 1)) % B < B := Nat.mod_lt _ (by omega)
  have MO := lmakes_out (l := l) (num := n0 + (m + 1)) h.alive h.by_.ok h.by_.inn hbB (h.by_.fr _ hbB hne)
  rw [← hR] at MO
  obtain ⟨ok1, n1, len1, out1, res1, st1⟩ := MO
  generalize hbn : (b0 + (m + 1)) % B = b at *
  have hfar : ∀ c, c ≠ b → R.1.blk F c = s.blk F c ∧ R.1.pg F c 0 = s.pg F c 0 := fun c hc => blk_far out1 hc
  have hla : R.1.lall F l.segs = s.lall F l.segs := lall_congr fun x hx => (hfar _ (hne x hx)).1
  have hin1 : In R.1.n.length F B := by rw [n1]; exact h.by_.inn
  have hby0 : numL (R.1.pg F b 0) = 0 → LBy F B R.1 l.segs := fun h0 => ⟨ok1, hin1, ⟨b0, n0, m + 1, h1, h2, h3, h4, h5⟩, fun x hx => by rw [(hfar _ (hne x hx)).2]; exact h.by_.hd x hx, fun c hc hx => by
    by_cases hcb : c = b
    · rw [hcb]; exact h0
    · rw [(hfar c hcb).2]; exact h.by_.fr c hc hx, fun x hx => by rw [(hfar _ (hne x hx)).1]; exact h.by_.gd x hx⟩
  have hby1 : Fresh R.1 F b (n0 + (m + 1)) → LBy F B R.1 (l.segs ++ [(b, n0 + (m + 1))]) ∧ R.1.lall F (l.segs ++ [(b, n0 + (m + 1))]) = s.lall F l.segs := fun hf => by
    obtain ⟨f1, f2, f3⟩ := hf.recs
    refine ⟨⟨ok1, hin1, ⟨b0, n0, m + 2, h1, h2, by omega, by omega, by rw [chainL_succ, ← h5, hbn]⟩, fun x hx => ?_, fun c hc hx => ?_, fun x hx => ?_⟩, ?_⟩
    · rcases List.mem_append.1 hx with hx | hx
      · rw [(hfar _ (hne x hx)).2]; exact h.by_.hd x hx
      · rw [List.mem_singleton] at hx; subst hx
        rw [hf.pg]; exact numL_first _ (by omega) hnum
    · have hcb : c ≠ b := fun e => hx (b, n0 + (m + 1)) (by simp) e.symm
      rw [(hfar c hcb).2]; exact h.by_.fr c hc fun x h' => hx x (List.mem_append_left _ h')
    · rcases List.mem_append.1 hx with hx | hx
      · rw [(hfar _ (hne x hx)).1]; exact h.by_.gd x hx
      · rw [List.mem_singleton] at hx; subst hx; exact f1
    · rw [lall_app, hla]; unfold FS.lall; simp [f2]
  refine ⟨st1, fun x hx => ⟨hne x hx, (hfar _ (hne x hx)).1⟩, ?_⟩
  rcases res1 with ⟨a, c, d, e⟩ | ⟨a, c, d, e⟩
  · obtain ⟨q1, q2⟩ := hby1 e
    refine .inl ⟨a, by rw [d], ⟨by rw [d]; exact q1, c, by rw [d]; exact h.live⟩, by rw [d]; exact q2, ?_⟩
    have hnw2 : R.2.1.newest = (b, n0 + (m + 1)) := by
      rw [d]; unfold LS.newest; dsimp only
      rw [List.length_append, List.length_singleton, Nat.add_sub_cancel, List.getD_eq_getElem?_getD, List.getElem?_append_right (Nat.le_refl _), Nat.sub_self]; rfl
    unfold FS.lroom
    rw [c, if_neg (by decide), hnw2]; exact e.recs.2.2
  · refine .inr ⟨a, c, ?_⟩
    rcases e with e | e
    · exact ⟨_, hby0 e, hla, .inl rfl⟩
    · obtain ⟨q1, q2⟩ := hby1 e
      exact ⟨_, q1, q2, .inr rfl⟩
end Go.Proofs.YtjednaendedpdaaGreat
