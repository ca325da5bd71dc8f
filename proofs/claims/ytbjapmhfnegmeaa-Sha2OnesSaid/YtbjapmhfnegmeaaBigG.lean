/- Rows of the call's own: append, and where the row lies then; append among the operations of a region. -/
import Derived.Test.YtbjapmhfnegmeaaOwn
import Derived.Test.YtbjapmhfnegmeaaMix
namespace Go.Proofs.Ytbjapmhfnegmeaa
set_option linter.unusedVariables false
open Go Go.RowKit

theorem Own.base {w : World} {base base' n : Nat} {e : TypeId} {v : Value} {xs : List Value} (h : Own w base e v n xs) (hb : base' ≤ base) : Own w base' e v n xs := by
  refine ⟨h.1, ?_⟩
  rcases h.2 with ⟨a, b⟩ | ⟨g, cap, cur, fr, rfl, b, c⟩
  · exact .inl ⟨a, b⟩
  · exact .inr ⟨g, cap, cur, fr, rfl, Nat.le_trans hb b, c⟩
/-- append of m ones, that lie anywhere. -/
theorem run_append_OwnB {P : Program} (w : World) (base : Nat) (t ty e : TypeId) (z : Value) (by_ : Nat) (ht : P.underlying t = some (.slice e)) (hi : (P.info? e).map (fun i => (i.zero, i.size, i.bytes)) = some (some z, 1, by_)) (hz : z.cells.size = 1)
    (v : Value) (n : Nat) (xs : List Value) (hown : Own w base e v n xs) (a : Addr) (m c : Nat) (news : List Value) (hl : news.length = m) (hnews : ∀ j u, news[j]? = some u → w.cell? (a.add j) = some u) (h1 : ∀ u ∈ news, u.oneCell' = true)
    (hm : 0 < m) (hn : n + m ≤ 1000000000) (hby : by_ ≤ 16) (hbase : base ≤ w.heap.size) :
    ∃ v' w', (Builtin.append_ #[t, t] ty #[v, .slice (some a) m c]).run P w = .ok v' w' ∧ Own w' base e v' (n + m) (xs ++ news) ∧ w.grownBy w' v.ownBlock ∧ v' ≠ .slice none 0 0 ∧ ∀ k, v'.ownBlock = some k → v.ownBlock = some k ∨ w.heap.size ≤ k := by
  obtain ⟨i0, hi0, hz0, hz1, hz2⟩ := info_parts hi
  have hlen : (xs ++ news).length = n + m := by rw [List.length_append, hown.1, hl]
  have hbytes : (n + m) * by_ ≤ 140737488355328 := by
    have : (n + m) * by_ ≤ (n + m) * 16 := Nat.mul_le_mul (Nat.le_refl _) hby
    omega
  have h63 : n + m ≤ maxLen := by unfold maxLen; omega
  rcases hown.2 with ⟨rfl, rfl⟩ | ⟨g, cap, cur, fr, rfl, hbg, hg, hnc, hcm, hcs, htake, hfr⟩
  · have hx : xs = [] := List.eq_nil_of_length_eq_zero hown.1
    subst hx
    obtain ⟨v', w', r1, r2, r3, r4⟩ := run_append_own (P := P) w w.heap.size t ty e i0 z 1 by_ ht hi0 hz0 hz1 hz2 hz (by decide) (.slice none 0 0) 0 [] (World.ownsRow_nil _ _ _ _) a m c news (by rw [hl, Nat.mul_one]) hnews h1 h63 hbytes (Nat.le_refl _)
    have ro := Own.of r2
    exact ⟨v', w', r1, ro.base hbase, r3, (fun e => by have := (r4.1 e).2; omega), fun k hk => .inr (ro.lt k hk).1⟩
  · by_cases hroom : n + m ≤ cap
    · have hr := run_append_room_cells (P := P) (w := w) t ty e i0 ht hi0 g 0 n cap a m c news (by rw [hl, hz1, Nat.mul_one]) hnews h1 hroom (fun j hj => by
        rw [hz1, Nat.zero_add, Nat.mul_one, cell_of_row _ _ _ _ _ _ hg, Array.getElem?_eq_getElem (by omega)]; rfl) (fun j hj => by
        rw [hz1, Nat.zero_add, Nat.mul_one]
        simp only [World.frozen?, hg]
        rcases hfr with hfr | hfr
        · rw [hfr]; simp
        · have : ¬ fr.1 ≤ n + j := by omega
          simp [this])
      rw [hz1, Nat.zero_add, Nat.mul_one] at hr
      have hset : ∀ (vs : List Value) (o : Nat) (W : World) (C : Array Value), W.heap[g]? = some (.cells C e fr) → o + vs.length ≤ C.size → ∃ C', (W.setCells g o vs).heap[g]? = some (.cells C' e fr) ∧ C'.size = C.size ∧ C'.toList.take (o + vs.length) = C.toList.take o ++ vs := by
        intro vs
        induction vs with
        | nil => intro o W C hC _; exact ⟨C, hC, rfl, by simp⟩
        | cons u vs ih =>
          intro o W C hC hle
          rw [List.length_cons] at hle
          obtain ⟨C', q1, q2, q3⟩ := ih (o + 1) (W.setCell ⟨g, o, none⟩ u) (C.setIfInBounds o u) (by rw [heap_set, if_pos rfl, hC]; rfl) (by simp; omega)
          refine ⟨C', q1, by simpa using q2, ?_⟩
          rw [List.length_cons, show o + (vs.length + 1) = o + 1 + vs.length from by omega, q3, Array.toList_setIfInBounds, List.take_succ_eq_append_getElem (by simp; omega), List.take_set_of_le (by omega)]
          simp
      obtain ⟨C', q1, q2, q3⟩ := hset news n w cur hg (by omega)
      refine ⟨_, _, hr, ⟨hlen, .inr ⟨g, cap, C', fr, rfl, hbg, q1, hroom, hcm, q2.trans hcs, ?_, hfr⟩⟩, ⟨?_, ?_, ?_, ?_, ?_⟩, by simp, fun k hk => .inl hk⟩
      · rw [← hl, q3, htake]
      · exact (upd_setCells g news n w).os
      · exact (upd_setCells g news n w).tape
      · exact (upd_setCells g news n w).output
      · exact (upd_setCells g news n w).size
      · intro k hk hne
        exact (upd_setCells g news n w).block k hk (by simp only [List.mem_singleton]; intro e; exact hne (by simp [Value.ownBlock, e]))
    · have holds : ∀ j u, xs[j]? = some u → w.cell? ((⟨g, 0, none⟩ : Addr).add j) = some u := by
        intro j u hu
        rw [show ((⟨g, 0, none⟩ : Addr).add j) = ⟨g, j, none⟩ from by unfold Addr.add; split <;> simp_all, cell_of_row _ _ _ _ _ _ hg]
        rw [← htake, List.getElem?_take] at hu
        split at hu
        · simpa using hu
        · cases hu
      have hr := run_append_grow (P := P) w t ty e i0 z ht hi0 hz0 ⟨g, 0, none⟩ n cap xs (by rw [hz1, Nat.mul_one]; exact hown.1) holds a m c news (by rw [hz1, Nat.mul_one]; exact hl) hnews (by omega) (by omega) (growslice_fits (by omega) (by rw [hz2]; exact hbytes))
      have hge := grownCap_ge w (n + m) cap e
      have hcm' : grownCap w (n + m) cap e ≤ maxLen := grownCap_le_maxLen w (n + m) cap e h63
      refine ⟨_, _, hr, ⟨hlen, .inr ⟨w.heap.size, _, _, (0, 0), rfl, hbase, heap_alloc_new w.drew _, hge, hcm', ?_, ?_, .inl rfl⟩⟩, ⟨rfl, rfl, rfl, by simp, fun k hk _ => heap_alloc_old w.drew _ hk⟩, by simp, fun k hk => .inr (by simp [Value.ownBlock] at hk; omega)⟩
      · simp only [Array.size_append, List.size_toArray, size_zeroCells, hz, hown.1, hl]
        omega
      · simp only [Array.toList_append, List.append_assoc]
        rw [← List.append_assoc, ← hlen]
        exact List.take_left

section
variable {P : Program} {W : World} {S : List Nat} {T : (World → Prop) → List Nat → Act → Prop} {L : List (Oper × Kd)} {F : World → Prop} {N : List Nat} {a : Act} {o : Oper}
/-- append of one to a row whose block is in S. -/
theorem gm_app1 (s x : Operand) (t : TypeId) (ho : o.op = .call { callee := .builtin .append, args := #[s, x], argTypes := #[t, t] })
    (B : Nat) (e : TypeId) (z : Value) (by_ : Nat) (ht : P.underlying t = some (.slice e)) (hi : (P.info? e).map (fun i => (i.zero, i.size, i.bytes)) = some (some z, 1, by_)) (hz : z.cells.size = 1)
    (v : Value) (n : Nat) (xs : List Value) (hs : a.eval s = v) (g : Nat) (y : Value) (hx : a.eval x = .slice (some ⟨g, 0, none⟩) 1 1) (h1 : y.oneCell' = true) (hn : n + 1 ≤ 1000000000) (hby : by_ ≤ 16)
    (hS : ∀ k, v.ownBlock = some k → k ∈ S) (hF : ∀ w, GrS S W w → F w → Own w B e v n xs ∧ B ≤ w.heap.size ∧ w.cell? ⟨g, 0, none⟩ = some y)
    (h : ∀ v', v' ≠ .slice none 0 0 → (∀ k, v'.ownBlock = some k → v.ownBlock = some k ∨ W.heap.size ≤ k) → wpG P W S T L (fun w => Own w B e v' (n + 1) (xs ++ [y])) N (a.put o.dst v')) : wpG P W S T ((o, .cha) :: L) F N a := by
  intro w hw hFw
  obtain ⟨own, hB, hy⟩ := hF w hw hFw
  obtain ⟨v', w', r1, r2, r3, r4, r5⟩ := run_append_OwnB (P := P) w B t o.type e z by_ ht hi hz v n xs own ⟨g, 0, none⟩ 1 1 [y] rfl (fun j u hj => by
    match j, hj with
    | 0, hj => simp at hj; subst hj; simpa [Addr.add] using hy) (fun u hu => by simp at hu; subst hu; exact h1) (by decide) hn hby hB
  refine .inr (.inr ⟨v', w', ?_, ?_, _, [], ?_, r2, (fun _ hb => by cases hb), h v' r4 (fun k hk => (r5 k hk).imp id (Nat.le_trans hw.size))⟩)
  · simp [execOp, ho, resolve, invoke, builtin, hs, hx, r1, Result.andThen]
  · exact (GrS.mk r3.os r3.tape r3.output r3.size (fun k hk hn => r3.block k hk (fun e => hn (hS k e.symm)))).d
  · exact fun w1 w2 hg ho => ho.below hg
end
end Go.Proofs.Ytbjapmhfnegmeaa
