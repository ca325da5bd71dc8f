/- Rows of the call's own, marked or not: []byte(s), append, string(b). Nothing of the program. -/
import Derived.Test.YtafhncpaoolljaaRow
import Derived.Laws.IdiomStrings
namespace Go.Proofs.Ytafhncpaoolljaa
set_option maxRecDepth 100000
set_option linter.unusedVariables false
open Go Go.RowKit

/-- The slice v of n elements of one cell each lies in a row of the call's own, whose first cells are xs; of the cells none is frozen (a mark behind them may be). -/
def Own (w : World) (base : Nat) (e : TypeId) (v : Value) (n : Nat) (xs : List Value) : Prop :=
  xs.length = n ∧ ((v = .slice none 0 0 ∧ n = 0) ∨
    ∃ (g cap : Nat) (cur : Array Value) (fr : Nat × Nat), v = .slice (some ⟨g, 0, none⟩) n cap ∧ base ≤ g ∧ w.heap[g]? = some (.cells cur e fr) ∧ n ≤ cap ∧ cap ≤ maxLen ∧ cur.size = cap ∧ cur.toList.take n = xs ∧ (fr.2 = 0 ∨ cap ≤ fr.1))
theorem Own.nil (w : World) (base : Nat) (e : TypeId) : Own w base e (.slice none 0 0) 0 [] := ⟨rfl, .inl ⟨rfl, rfl⟩⟩
theorem Own.of {w : World} {base : Nat} {e : TypeId} {v : Value} {n : Nat} {xs : List Value} (h : w.ownsRow base e 1 v n xs) : Own w base e v n xs := by
  refine ⟨by simpa using h.1, ?_⟩
  rcases h.2 with ⟨a, b⟩ | ⟨g, cap, cur, a, b, c, d, e', f, k⟩
  · exact .inl ⟨a, b⟩
  · exact .inr ⟨g, cap, cur, (0, 0), a, b, c, d, e', by simpa using f, by simpa using k, .inl rfl⟩
theorem Own.made (w : World) (e : TypeId) (cur : Array Value) (cap base : Nat) (hb : base ≤ w.heap.size) (hm : cap ≤ maxLen) (hs : cur.size = cap) :
    Own (w.alloc (.cells cur e)) base e (.slice (some ⟨w.heap.size, 0, none⟩) 0 cap) 0 [] :=
  ⟨rfl, .inr ⟨w.heap.size, cap, cur, (0, 0), rfl, hb, heap_alloc_new w _, Nat.zero_le _, hm, hs, rfl, .inl rfl⟩⟩
theorem Own.lt {w : World} {base : Nat} {e : TypeId} {v : Value} {n : Nat} {xs : List Value} (h : Own w base e v n xs) : ∀ k, v.ownBlock = some k → base ≤ k ∧ k < w.heap.size := by
  intro k hk
  rcases h.2 with ⟨rfl, _⟩ | ⟨g, cap, cur, fr, rfl, hb, hg, _⟩
  · simp [Value.ownBlock] at hk
  · simp [Value.ownBlock] at hk
    subst hk
    exact ⟨hb, (Array.getElem?_eq_some_iff.1 hg).1⟩
/-- It stays where its block stays. -/
theorem Own.keep {w w' : World} {base : Nat} {e : TypeId} {v : Value} {n : Nat} {xs : List Value} (h : Own w base e v n xs) (hk : ∀ k, v.ownBlock = some k → w'.heap[k]? = w.heap[k]?) : Own w' base e v n xs := by
  refine ⟨h.1, ?_⟩
  rcases h.2 with ⟨a, b⟩ | ⟨g, cap, cur, fr, rfl, b, c, d⟩
  · exact .inl ⟨a, b⟩
  · exact .inr ⟨g, cap, cur, fr, rfl, b, (hk g rfl).trans c, d⟩
theorem Own.alloc {w : World} {base : Nat} {e : TypeId} {v : Value} {n : Nat} {xs : List Value} (h : Own w base e v n xs) (o : Obj) : Own (w.alloc o) base e v n xs :=
  h.keep fun k hk => heap_alloc_old _ _ (h.lt k hk).2
theorem Own.drew {w : World} {base : Nat} {e : TypeId} {v : Value} {n : Nat} {xs : List Value} (h : Own w base e v n xs) : Own w.drew base e v n xs := h.keep fun _ _ => rfl
theorem Own.drewN {w : World} {base : Nat} {e : TypeId} {v : Value} {n : Nat} {xs : List Value} (h : Own w base e v n xs) (k : Nat) : Own (w.drewN k) base e v n xs := h.keep fun _ _ => rfl
theorem Own.below {w w' : World} {base : Nat} {e : TypeId} {v : Value} {n : Nat} {xs : List Value} (h : Own w base e v n xs) (hb : Below w.heap.size w w') : Own w' base e v n xs :=
  h.keep fun k hk => hb.block k (h.lt k hk).2
theorem Own.cells {w : World} {base n : Nat} {e : TypeId} {v : Value} {xs : List Value} (h : Own w base e v n xs) (hn : v ≠ .slice none 0 0) :
    ∃ g cap, v = .slice (some ⟨g, 0, none⟩) n cap ∧ base ≤ g ∧ (∀ j u, xs[j]? = some u → w.cell? ⟨g, j, none⟩ = some u) ∧ g < w.heap.size ∧ n ≤ cap := by
  rcases h.2 with ⟨rfl, rfl⟩ | ⟨g, cap, cur, fr, rfl, hbg, hg, hnc, hm, hcs, htake, _⟩
  · exact absurd rfl hn
  · refine ⟨g, cap, rfl, hbg, fun j u hu => ?_, (Array.getElem?_eq_some_iff.1 hg).1, hnc⟩
    rw [cell_of_row _ _ _ _ _ _ hg]
    rw [← htake, List.getElem?_take] at hu
    split at hu
    · simpa using hu
    · cases hu
/-- append of m ones, that lie anywhere. -/
theorem run_append_Own {P : Program} (w : World) (base : Nat) (t ty e : TypeId) (z : Value) (by_ : Nat) (ht : P.underlying t = some (.slice e)) (hi : (P.info? e).map (fun i => (i.zero, i.size, i.bytes)) = some (some z, 1, by_)) (hz : z.cells.size = 1)
    (v : Value) (n : Nat) (xs : List Value) (hown : Own w base e v n xs) (a : Addr) (m c : Nat) (news : List Value) (hl : news.length = m) (hnews : ∀ j u, news[j]? = some u → w.cell? (a.add j) = some u) (h1 : ∀ u ∈ news, u.oneCell' = true)
    (hm : 0 < m) (hn : n + m ≤ 1000000000) (hby : by_ ≤ 16) (hbase : base ≤ w.heap.size) :
    ∃ v' w', (Builtin.append_ #[t, t] ty #[v, .slice (some a) m c]).run P w = .ok v' w' ∧ Own w' base e v' (n + m) (xs ++ news) ∧ w.grownBy w' v.ownBlock ∧ v' ≠ .slice none 0 0 := by
  obtain ⟨i0, hi0, hz0, hz1, hz2⟩ := info_parts hi
  have hlen : (xs ++ news).length = n + m := by rw [List.length_append, hown.1, hl]
  have hbytes : (n + m) * by_ ≤ 140737488355328 := by
    have : (n + m) * by_ ≤ (n + m) * 16 := Nat.mul_le_mul (Nat.le_refl _) hby
    omega
  have h63 : n + m ≤ maxLen := by unfold maxLen; omega
  rcases hown.2 with ⟨rfl, rfl⟩ | ⟨g, cap, cur, fr, rfl, hbg, hg, hnc, hcm, hcs, htake, hfr⟩
  · have hx : xs = [] := List.eq_nil_of_length_eq_zero hown.1
    subst hx
    obtain ⟨v', w', r1, r2, r3, r4⟩ := run_append_own (P := P) w base t ty e i0 z 1 by_ ht hi0 hz0 hz1 hz2 hz (by decide) (.slice none 0 0) 0 [] (World.ownsRow_nil _ _ _ _) a m c news (by rw [hl, Nat.mul_one]) hnews h1 h63 hbytes hbase
    exact ⟨v', w', r1, Own.of r2, r3, fun e => by have := (r4.1 e).2; omega⟩
  · by_cases hroom : n + m ≤ cap
    · have hr := run_append_room_cells (P := P) (w := w) t ty e i0 ht hi0 g 0 n cap a m c news (by rw [hl, hz1, Nat.mul_one]) hnews h1 hroom (fun j hj => by
        rw [hz1, Nat.zero_add, Nat.mul_one, cell_of_row _ _ _ _ _ _ hg, Array.getElem?_eq_getElem (by omega)]; rfl) (fun j hj => by
        rw [hz1, Nat.zero_add, Nat.mul_one]
        simp only [World.frozen?, hg]
        rcases hfr with hfr | hfr
        · rw [hfr]; simp
        · have : ¬ fr.1 ≤ n + j := by omega
          simp [this])
      rw [hz1, Nat.zero_add, Nat.mul_one] at hr
      have hset : ∀ (vs : List Value) (o : Nat) (W : World) (C : Array Value), W.heap[g]? = some (.cells C e fr) → o + vs.length ≤ C.size → ∃ C', (W.setCells g o vs).heap[g]? = some (.cells C' e fr) ∧ C'.size = C.size ∧ C'.toList.take (o + vs.length) = C.toList.take o ++ vs := by
        intro vs
        induction vs with
        | nil => intro o W C hC _; exact ⟨C, hC, rfl, by simp⟩
        | cons u vs ih =>
          intro o W C hC hle
          rw [List.length_cons] at hle
          obtain ⟨C', q1, q2, q3⟩ := ih (o + 1) (W.setCell ⟨g, o, none⟩ u) (C.setIfInBounds o u) (by rw [heap_set, if_pos rfl, hC]; rfl) (by simp; omega)
          refine ⟨C', q1, by simpa using q2, ?_⟩
          rw [List.length_cons, show o + (vs.length + 1) = o + 1 + vs.length from by omega, q3, Array.toList_setIfInBounds, List.take_succ_eq_append_getElem (by simp; omega), List.take_set_of_le (by omega)]
          simp
      obtain ⟨C', q1, q2, q3⟩ := hset news n w cur hg (by omega)
      refine ⟨_, _, hr, ⟨hlen, .inr ⟨g, cap, C', fr, rfl, hbg, q1, hroom, hcm, q2.trans hcs, ?_, hfr⟩⟩, ⟨?_, ?_, ?_, ?_, ?_⟩, by simp⟩
      · rw [← hl, q3, htake]
      · exact (upd_setCells g news n w).os
      · exact (upd_setCells g news n w).tape
      · exact (upd_setCells g news n w).output
      · exact (upd_setCells g news n w).size
      · intro k hk hne
        exact (upd_setCells g news n w).block k hk (by simp only [List.mem_singleton]; intro e; exact hne (by simp [Value.ownBlock, e]))
    · have holds : ∀ j u, xs[j]? = some u → w.cell? ((⟨g, 0, none⟩ : Addr).add j) = some u := by
        intro j u hu
        rw [show ((⟨g, 0, none⟩ : Addr).add j) = ⟨g, j, none⟩ from by unfold Addr.add; split <;> simp_all, cell_of_row _ _ _ _ _ _ hg]
        rw [← htake, List.getElem?_take] at hu
        split at hu
        · simpa using hu
        · cases hu
      have hr := run_append_grow (P := P) w t ty e i0 z ht hi0 hz0 ⟨g, 0, none⟩ n cap xs (by rw [hz1, Nat.mul_one]; exact hown.1) holds a m c news (by rw [hz1, Nat.mul_one]; exact hl) hnews (by omega) (by omega) (growslice_fits (by omega) (by rw [hz2]; exact hbytes))
      have hge := grownCap_ge w (n + m) cap e
      have hcm' : grownCap w (n + m) cap e ≤ maxLen := grownCap_le_maxLen w (n + m) cap e h63
      refine ⟨_, _, hr, ⟨hlen, .inr ⟨w.heap.size, _, _, (0, 0), rfl, hbase, heap_alloc_new w.drew _, hge, hcm', ?_, ?_, .inl rfl⟩⟩, ⟨rfl, rfl, rfl, by simp, fun k hk _ => heap_alloc_old w.drew _ hk⟩, by simp⟩
      · simp only [Array.size_append, List.size_toArray, size_zeroCells, hz, hown.1, hl]
        omega
      · simp only [Array.toList_append, List.append_assoc]
        rw [← List.append_assoc, ← hlen]
        exact List.take_left
/-- append, as the walk meets it. -/
theorem wpList_app {P : Program} {w w0 : World} {ops : Array Oper} {rest : List Oper} {o : Oper} {a : Act} {Q : Exit → Act → World → Prop} (hgd : o.guard = none) (s x : Operand) (t : TypeId)
    (ho : o.op = .call { callee := .builtin .append, args := #[s, x], argTypes := #[t, t] })
    (B : Nat) (e : TypeId) (z : Value) (by_ : Nat) (ht : P.underlying t = some (.slice e)) (hi : (P.info? e).map (fun i => (i.zero, i.size, i.bytes)) = some (some z, 1, by_)) (hz : z.cells.size = 1)
    (v : Value) (n : Nat) (xs : List Value) (hs : a.eval s = v) (hown : Own w B e v n xs) (hb : Below B w0 w) (hB : B ≤ w.heap.size)
    (ad : Addr) (m c : Nat) (news : List Value) (hx : a.eval x = .slice (some ad) m c) (hl : news.length = m) (hnews : ∀ j u, news[j]? = some u → w.cell? (ad.add j) = some u) (h1 : ∀ u ∈ news, u.oneCell' = true) (hm : 0 < m) (hn : n + m ≤ 1000000000) (hby : by_ ≤ 16)
    (h : ∀ v' w', Own w' B e v' (n + m) (xs ++ news) → Below B w0 w' → B ≤ w'.heap.size → w.grownBy w' v.ownBlock → v' ≠ .slice none 0 0 → wpList P ops Q rest (a.put o.dst v') w') :
    wpList P ops Q (o :: rest) a w := by
  obtain ⟨v', w', r1, r2, r3, r4⟩ := run_append_Own (P := P) w B t o.type e z by_ ht hi hz v n xs hown ad m c news hl hnews h1 hm hn hby hB
  have hlo := hown.lt
  refine wpList_append_run hgd s x t ho hs hx r1 (h v' w' r2 (hb.grown r3 hB (fun t ht => (hlo t ht).1)) (Nat.le_trans hB r3.size) r3 r4)
/-- append of one. -/
theorem wpList_app1 {P : Program} {w w0 : World} {ops : Array Oper} {rest : List Oper} {o : Oper} {a : Act} {Q : Exit → Act → World → Prop} (hgd : o.guard = none) (s x : Operand) (t : TypeId)
    (ho : o.op = .call { callee := .builtin .append, args := #[s, x], argTypes := #[t, t] })
    (B : Nat) (e : TypeId) (z : Value) (by_ : Nat) (ht : P.underlying t = some (.slice e)) (hi : (P.info? e).map (fun i => (i.zero, i.size, i.bytes)) = some (some z, 1, by_)) (hz : z.cells.size = 1)
    (v : Value) (n : Nat) (xs : List Value) (hs : a.eval s = v) (hown : Own w B e v n xs) (hb : Below B w0 w) (hB : B ≤ w.heap.size)
    (g : Nat) (y : Value) (hx : a.eval x = .slice (some ⟨g, 0, none⟩) 1 1) (hy : w.cell? ⟨g, 0, none⟩ = some y) (h1 : y.oneCell' = true) (hn : n + 1 ≤ 1000000000) (hby : by_ ≤ 16)
    (h : ∀ v' w', Own w' B e v' (n + 1) (xs ++ [y]) → Below B w0 w' → B ≤ w'.heap.size → w.grownBy w' v.ownBlock → v' ≠ .slice none 0 0 → wpList P ops Q rest (a.put o.dst v') w') :
    wpList P ops Q (o :: rest) a w :=
  wpList_app hgd s x t ho B e z by_ ht hi hz v n xs hs hown hb hB ⟨g, 0, none⟩ 1 1 [y] hx rfl (fun j u hj => by
    match j, hj with
    | 0, hj => simp at hj; subst hj; simpa [Addr.add] using hy) (fun u hu => by simp at hu; subst hu; exact h1) (by decide) hn hby h
/-- What []byte(s) lays is the call's own. -/
theorem Own.bytes (w : World) (s : ByteArray) (cap base : Nat) (e : TypeId) (hb : base ≤ w.heap.size) (hc : s.size ≤ cap) (hm : cap ≤ maxLen) :
    Own (w.alloc (.cells (bytesRow s cap) e ((bytesRow s cap).size, (bytesRow s cap).size + 1))) base e (.slice (some ⟨w.heap.size, 0, none⟩) s.size cap) s.size (s.data.toList.map byv) := by
  have hs : (bytesRow s cap).size = cap := by
    unfold bytesRow
    rw [Array.size_append, Array.size_map, Array.size_replicate]
    have : s.data.size = s.size := rfl
    omega
  refine ⟨by simp, .inr ⟨w.heap.size, cap, _, _, rfl, hb, heap_alloc_new w _, hc, hm, hs, ?_, .inr (by rw [hs]; exact Nat.le_refl _)⟩⟩
  unfold bytesRow
  rw [Array.toList_append, Array.toList_map]
  have : (s.data.toList.map fun b => Value.int .u8 b.toNat).length = s.size := by simp
  rw [← this]
  exact List.take_left
/-- []byte(s), its run. -/
theorem run_tobytes {P : Program} (src dst e : TypeId) (s : ByteArray) (hs : P.underlying src = some .string) (hd : P.underlying dst = some (.slice e)) (he : P.underlying e = some (.int .u8)) (hl : s.size ≤ 1000000000) (base : Nat) (w : World) (hb : base ≤ w.heap.size) :
    ∃ cap C fr, (convert src dst (.string s)).run P w = .ok (.slice (some ⟨w.heap.size, 0, none⟩) s.size cap) (w.alloc (.cells C e fr)).drew ∧
      Own (w.alloc (.cells C e fr)) base e (.slice (some ⟨w.heap.size, 0, none⟩) s.size cap) s.size (s.data.toList.map byv) :=
  ⟨_, _, _, run_bytes_of_string w src dst e s hs hd he, Own.bytes w s _ base e hb (grownCap_ge w s.size 0 e) (grownCap_le_maxLen w s.size 0 e (by unfold maxLen; omega))⟩
/-- string(b) of such a row. -/
theorem run_str_Own {P : Program} {w : World} {base n : Nat} {e src dst : TypeId} {v : Value} {l : List UInt8} (h : Own w base e v n (l.map byv)) (hn : v ≠ .slice none 0 0)
    (hs : P.underlying src = some (.slice e)) (he : P.underlying e = some (.int .u8)) (hd : P.underlying dst = some .string) : (convert src dst v).run P w = .ok (.string ⟨l.toArray⟩) w := by
  have hl := h.1
  rw [List.length_map] at hl
  obtain ⟨g, cap, rfl, _, hc, _, _⟩ := h.cells hn
  exact run_str_at P w g 0 cap l src dst e n hl hs he hd (fun j u hj => by rw [Nat.zero_add]; exact hc j _ (by rw [List.getElem?_map, hj]; rfl))
theorem bdrewN {B : Nat} {a w : World} (h : Below B a w) (n : Nat) : Below B a (w.drewN n) := ⟨h.os, h.tape, h.output, h.size, h.block⟩
theorem cell_new (w : World) (y : Value) (e : TypeId) : (w.alloc (.cells #[y] e)).cell? ⟨w.heap.size, 0, none⟩ = some y :=
  cell_of_row _ _ 0 _ _ _ (heap_alloc_new _ _)
end Go.Proofs.Ytafhncpaoolljaa
