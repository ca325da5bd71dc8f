/- Regions that draw their order and hold operations under guards: as the mixed walk, where each guard is decided on the way. Nothing of the program. -/
import Derived.Test.YtafhncpaoolljaaMixU
namespace Go.Proofs.Ytafhncpaoolljaa
set_option maxRecDepth 100000
set_option linter.unusedVariables false
open Go Go.RowKit
namespace Gd
section
variable {P : Program} {W : World} {S : List Nat} {ops : Array Oper}

/-- Is the operation wanted, by what has come out so far? -/
def want (ops : Array Oper) (o : Oper) (a : Act) : Bool := Region.wanted o (yielded ops a.tmps)
def yieldsW (P : Program) (W : World) (S : List Nat) (ops : Array Oper) (o : Oper) (a : Act) (v : Value) : Prop := (want ops o a = true ∧ yieldsG P W S o a v) ∨ (want ops o a = false ∧ v = undef)
def makesW (P : Program) (W : World) (S : List Nat) (ops : Array Oper) (o : Oper) (a : Act) (X : Obj) : Prop := want ops o a = true ∧ makesG P W S o a X
def stepsW (P : Program) (S : List Nat) (ops : Array Oper) (o : Oper) (a : Act) (w : World) (R : Value → World → Prop) : Prop := (want ops o a = true ∧ steps P S o a w R) ∨ (want ops o a = false ∧ R undef w)
theorem stepsW.mono {o : Oper} {a : Act} {w : World} {R R' : Value → World → Prop} (h : stepsW P S ops o a w R) (hr : ∀ v w', R v w' → R' v w') : stepsW P S ops o a w R' :=
  h.imp (fun h => ⟨h.1, h.2.mono hr⟩) (fun h => ⟨h.1, hr _ _ h.2⟩)
theorem stepsW.some {o : Oper} {a : Act} {w : World} {R : Value → World → Prop} (h : stepsW P S ops o a w R) : ∃ v w', R v w' :=
  h.elim (fun h => h.2.some) (fun h => ⟨_, _, h.2⟩)
theorem want_i {i j : Oper} (h : Apt ops j i) (a : Act) (u : Value) : want ops i (a.put j.dst u) = want ops i a := wanted_put i a j.dst u (Oper.apart_spec h.ap).1
theorem want_j {i j : Oper} (h : Apt ops j i) (a : Act) (u : Value) : want ops j (a.put i.dst u) = want ops j a := wanted_put j a i.dst u (Oper.apart_spec h.ap).2.2
theorem y_i {i j : Oper} (h : Apt ops j i) (a : Act) (u v : Value) : yieldsW P W S ops i (a.put j.dst u) v = yieldsW P W S ops i a v := by unfold yieldsW yieldsG; rw [want_i h, h.exec_i]
theorem y_j {i j : Oper} (h : Apt ops j i) (a : Act) (u v : Value) : yieldsW P W S ops j (a.put i.dst u) v = yieldsW P W S ops j a v := by unfold yieldsW yieldsG; rw [want_j h, h.exec_j]
theorem m_i {i j : Oper} (h : Apt ops j i) (a : Act) (u : Value) (X : Obj) : makesW P W S ops i (a.put j.dst u) X = makesW P W S ops i a X := by unfold makesW makesG; rw [want_i h, h.exec_i]
theorem m_j {i j : Oper} (h : Apt ops j i) (a : Act) (u : Value) (X : Obj) : makesW P W S ops j (a.put i.dst u) X = makesW P W S ops j a X := by unfold makesW makesG; rw [want_j h, h.exec_j]
theorem s_i {i j : Oper} (h : Apt ops j i) (a : Act) (u : Value) (w : World) (R : Value → World → Prop) : stepsW P S ops i (a.put j.dst u) w R = stepsW P S ops i a w R := by unfold stepsW steps; rw [want_i h, h.exec_i]
theorem s_j {i j : Oper} (h : Apt ops j i) (a : Act) (u : Value) (w : World) (R : Value → World → Prop) : stepsW P S ops j (a.put i.dst u) w R = stepsW P S ops j a w R := by unfold stepsW steps; rw [want_j h, h.exec_j]
def wpW (P : Program) (W : World) (S : List Nat) (ops : Array Oper) (T : (World → Prop) → List Nat → Act → Prop) : List (Oper × Kd) → (World → Prop) → List Nat → Act → Prop
  | [], F, N, a => T F N a
  | (o, .flo) :: L, F, N, a => ∃ v, yieldsW P W S ops o a v ∧ wpW P W S ops T L F N (a.put o.dst v)
  | (o, .new X) :: L, F, N, a => makesW P W S ops o a X ∧ ∀ b, W.heap.size ≤ b → b ∉ N → wpW P W S ops T L (fun w => F w ∧ w.heap[b]? = some X) (b :: N) (a.put o.dst (.pointer (some ⟨b, 0, none⟩)))
  | (o, .cha) :: L, F, N, a => ∀ w, GrS S W w → F w → stepsW P S ops o a w (fun v w' => GrD S N w w' ∧ ∃ F' N', Stb F' ∧ F' w' ∧ (∀ b ∈ N', w.heap.size ≤ b ∧ b < w'.heap.size) ∧ wpW P W S ops T L F' (N' ++ N) (a.put o.dst v))

theorem wpW_sub {P : Program} {W : World} {S : List Nat} {ops : Array Oper} {T : (World → Prop) → List Nat → Act → Prop} (hT : ∀ F N N' a, (∀ b, b ∈ N → b ∈ N') → T F N a → T F N' a) : ∀ (L : List (Oper × Kd)) (F : World → Prop) (N N' : List Nat) (a : Act), (∀ b, b ∈ N → b ∈ N') → wpW P W S ops T L F N a → wpW P W S ops T L F N' a
  | [], F, N, N', a, h, hg => hT F N N' a h hg
  | (o, .flo) :: L, F, N, N', a, h, ⟨v, hv, hg⟩ => ⟨v, hv, wpW_sub hT L F N N' _ h hg⟩
  | (o, .new X) :: L, F, N, N', a, h, ⟨hm, hg⟩ => ⟨hm, fun b hb hn => wpW_sub hT L _ (b :: N) (b :: N') _ (fun c hc => by
      rcases List.mem_cons.1 hc with h' | h'
      · exact h' ▸ List.mem_cons_self
      · exact List.mem_cons_of_mem _ (h c h')) (hg b hb (fun h' => hn (h b h')))⟩
  | (o, .cha) :: L, F, N, N', a, h, hg => fun w hw hF => by
    refine (hg w hw hF).mono fun v w' ⟨hgr, F', M, hs, hF', hl, h'⟩ => ⟨hgr.sub h, F', M, hs, hF', hl, wpW_sub hT L F' (M ++ N) (M ++ N') _ (fun b hb => ?_) h'⟩
    rcases List.mem_append.1 hb with h' | h'
    · exact List.mem_append_left _ h'
    · exact List.mem_append_right _ (h b h')
variable {T : (World → Prop) → List Nat → Act → Prop} {oi : Oper}

theorem ex_flo {B : List (Oper × Kd)} : ∀ (A : List (Oper × Kd)), (∀ p ∈ A, Apt ops p.1 oi) → ∀ (F : World → Prop) (N : List Nat) (a : Act) (w : World), Known W S F N w → wpW P W S ops T (A ++ (oi, .flo) :: B) F N a → ∃ v, yieldsW P W S ops oi a v
  | [], _, _, _, _, _, _, ⟨v, h, _⟩ => ⟨v, h⟩
  | (oj, .flo) :: A, hA, F, N, a, w, hk, ⟨u, _, h⟩ => by
    obtain ⟨v, hv⟩ := ex_flo A (fun p hp => hA p (List.mem_cons_of_mem _ hp)) F N _ w hk h
    exact ⟨v, by rwa [y_i (hA _ List.mem_cons_self)] at hv⟩
  | (oj, .new X) :: A, hA, F, N, a, w, hk, ⟨_, h⟩ => by
    obtain ⟨v, hv⟩ := ex_flo A (fun p hp => hA p (List.mem_cons_of_mem _ hp)) _ _ _ (w.alloc X) (hk.new X) (h w.heap.size hk.gr.size hk.fresh)
    exact ⟨v, by rwa [y_i (hA _ List.mem_cons_self)] at hv⟩
  | (oj, .cha) :: A, hA, F, N, a, w, hk, h => by
    obtain ⟨u, w', hg, F', M, hs', hF', hl, h'⟩ := (h w hk.gr hk.fa).some
    obtain ⟨v, hv⟩ := ex_flo A (fun p hp => hA p (List.mem_cons_of_mem _ hp)) F' _ _ w' (hk.call hg hs' hF' hl) h'
    exact ⟨v, by rwa [y_i (hA _ List.mem_cons_self)] at hv⟩

theorem rem_flo {v : Value} {B : List (Oper × Kd)} : ∀ (A : List (Oper × Kd)), (∀ p ∈ A, Apt ops p.1 oi) → ∀ (F : World → Prop) (N : List Nat) (a : Act), yieldsW P W S ops oi a v → wpW P W S ops T (A ++ (oi, .flo) :: B) F N a → wpW P W S ops T (A ++ B) F N (a.put oi.dst v)
  | [], _, _, _, a, hv, ⟨v', h', hg⟩ => by
    have e : v = v' := by
      rcases hv with ⟨g1, hv⟩ | ⟨g1, hv⟩ <;> rcases h' with ⟨g2, h'⟩ | ⟨g2, h'⟩ <;> rw [g1] at g2
      · rcases hv W (GrS.refl _ _) with h1 | ⟨h1, e1⟩ <;> rcases h' W (GrS.refl _ _) with h2 | ⟨h2, e2⟩ <;> rw [h1] at h2
        · injection h2 with h3; injection h3
        · injection h2 with h3; cases h3
        · injection h2 with h3; cases h3
        · rw [e1, e2]
      · cases g2
      · cases g2
      · rw [hv, h']
    subst e
    exact hg
  | (oj, .flo) :: A, hA, F, N, a, hv, ⟨u, hu, h⟩ => by
    have hj := hA _ List.mem_cons_self
    refine ⟨u, by rw [y_j hj]; exact hu, ?_⟩
    rw [← hj.comm]
    exact rem_flo A (fun p hp => hA p (List.mem_cons_of_mem _ hp)) F N _ (by rw [y_i hj]; exact hv) h
  | (oj, .new X) :: A, hA, F, N, a, hv, ⟨hm, h⟩ => by
    have hj := hA _ List.mem_cons_self
    refine ⟨by rw [m_j hj]; exact hm, fun b hb hn => ?_⟩
    rw [← hj.comm]
    exact rem_flo A (fun p hp => hA p (List.mem_cons_of_mem _ hp)) _ _ _ (by rw [y_i hj]; exact hv) (h b hb hn)
  | (oj, .cha) :: A, hA, F, N, a, hv, h => by
    have hj := hA _ List.mem_cons_self
    intro w hw hF
    have h0 := h w hw hF
    rw [← s_j hj a v] at h0
    refine h0.mono fun u w' ⟨hg, F', M, hs', hF', hl, h'⟩ => ⟨hg, F', M, hs', hF', hl, ?_⟩
    rw [← hj.comm]
    exact rem_flo A (fun p hp => hA p (List.mem_cons_of_mem _ hp)) F' _ _ (by rw [y_i hj]; exact hv) h'

theorem ex_new {X : Obj} {B : List (Oper × Kd)} : ∀ (A : List (Oper × Kd)), (∀ p ∈ A, Apt ops p.1 oi) → ∀ (F : World → Prop) (N : List Nat) (a : Act) (w : World), Known W S F N w → wpW P W S ops T (A ++ (oi, .new X) :: B) F N a → makesW P W S ops oi a X
  | [], _, _, _, _, _, _, ⟨h, _⟩ => h
  | (oj, .flo) :: A, hA, F, N, a, w, hk, ⟨u, _, h⟩ => by
    have hv := ex_new A (fun p hp => hA p (List.mem_cons_of_mem _ hp)) F N _ w hk h
    rwa [m_i (hA _ List.mem_cons_self)] at hv
  | (oj, .new Y) :: A, hA, F, N, a, w, hk, ⟨_, h⟩ => by
    have hv := ex_new A (fun p hp => hA p (List.mem_cons_of_mem _ hp)) _ _ _ (w.alloc Y) (hk.new Y) (h w.heap.size hk.gr.size hk.fresh)
    rwa [m_i (hA _ List.mem_cons_self)] at hv
  | (oj, .cha) :: A, hA, F, N, a, w, hk, h => by
    obtain ⟨u, w', hg, F', M, hs', hF', hl, h'⟩ := (h w hk.gr hk.fa).some
    have hv := ex_new A (fun p hp => hA p (List.mem_cons_of_mem _ hp)) F' _ _ w' (hk.call hg hs' hF' hl) h'
    rwa [m_i (hA _ List.mem_cons_self)] at hv

theorem rem_new (hT : ∀ F N N' a, (∀ b, b ∈ N → b ∈ N') → T F N a → T F N' a) (hS : ∀ k ∈ S, k < W.heap.size) {X : Obj} {b : Nat} (hb : W.heap.size ≤ b) {B : List (Oper × Kd)} : ∀ (A : List (Oper × Kd)), (∀ p ∈ A, Apt ops p.1 oi) → ∀ (F : World → Prop) (N : List Nat) (a : Act), b ∉ N → wpW P W S ops T (A ++ (oi, .new X) :: B) F N a →
    wpW P W S ops T (A ++ B) (fun w => F w ∧ w.heap[b]? = some X) (b :: N) (a.put oi.dst (.pointer (some ⟨b, 0, none⟩)))
  | [], _, _, _, a, hn, ⟨_, h⟩ => h b hb hn
  | (oj, .flo) :: A, hA, F, N, a, hn, ⟨u, hu, h⟩ => by
    have hj := hA _ List.mem_cons_self
    refine ⟨u, by rw [y_j hj]; exact hu, ?_⟩
    rw [← hj.comm]
    exact rem_new hT hS hb A (fun p hp => hA p (List.mem_cons_of_mem _ hp)) F N _ hn h
  | (oj, .new Y) :: A, hA, F, N, a, hn, ⟨hm, h⟩ => by
    have hj := hA _ List.mem_cons_self
    refine ⟨by rw [m_j hj]; exact hm, fun b' hb' hn' => ?_⟩
    rw [← hj.comm, and_swap3]
    have hne : b' ≠ b := fun h => hn' (h ▸ List.mem_cons_self)
    refine wpW_sub hT _ _ (b :: b' :: N) (b' :: b :: N) _ (fun c hc => ?_) (rem_new hT hS hb A (fun p hp => hA p (List.mem_cons_of_mem _ hp)) _ (b' :: N) _ (fun h => ?_) (h b' hb' (fun h => hn' (List.mem_cons_of_mem _ h))))
    · simp only [List.mem_cons] at hc ⊢; rcases hc with h | h | h <;> simp [h]
    · rcases List.mem_cons.1 h with h' | h'
      · exact hne h'.symm
      · exact hn h'
  | (oj, .cha) :: A, hA, F, N, a, hn, h => by
    have hj := hA _ List.mem_cons_self
    intro w hw hF
    have h0 := h w hw hF.1
    rw [← s_j hj a (.pointer (some ⟨b, 0, none⟩))] at h0
    refine h0.mono fun u w' ⟨hg, F', M, hs', hF', hl, h'⟩ =>
      ⟨hg.sub (fun _ h => List.mem_cons_of_mem _ h), fun x => F' x ∧ x.heap[b]? = some X, M, hs'.new b X, ⟨hF', hg.at (fun h => Nat.lt_irrefl _ (Nat.lt_of_lt_of_le (hS b h) hb)) hn hF.2⟩, hl, ?_⟩
    rw [← hj.comm]
    have hlt := Gr.blt hF.2
    refine wpW_sub hT _ _ (b :: (M ++ N)) (M ++ b :: N) _ (fun c hc => ?_) (rem_new hT hS hb A (fun p hp => hA p (List.mem_cons_of_mem _ hp)) F' (M ++ N) _ (fun h => ?_) h')
    · simp only [List.mem_cons, List.mem_append] at hc ⊢; rcases hc with h | h | h <;> simp [h]
    · rcases List.mem_append.1 h with h' | h'
      · have := hl b h'; omega
      · exact hn h'

theorem rem_cha {B : List (Oper × Kd)} : ∀ (A : List (Oper × Kd)), (∀ p ∈ A, Apt ops p.1 oi ∧ p.2.isFlo = true) → ∀ (F : World → Prop) (N : List Nat) (a : Act), wpW P W S ops T (A ++ (oi, .cha) :: B) F N a →
    ∀ w, GrS S W w → F w → stepsW P S ops oi a w (fun v w' => GrD S N w w' ∧ ∃ F' M, Stb F' ∧ F' w' ∧ (∀ b ∈ M, w.heap.size ≤ b ∧ b < w'.heap.size) ∧ wpW P W S ops T (A ++ B) F' (M ++ N) (a.put oi.dst v))
  | [], _, _, _, _, h, w, hw, hF => h w hw hF
  | (oj, .flo) :: A, hA, F, N, a, ⟨u, hu, h⟩, w, hw, hF => by
    have hj := (hA _ List.mem_cons_self).1
    have h0 := rem_cha A (fun p hp => hA p (List.mem_cons_of_mem _ hp)) F N _ h w hw hF
    rw [s_i hj a u] at h0
    refine h0.mono fun v w' ⟨hg, F', M, hs', hF', hl, h'⟩ => ⟨hg, F', M, hs', hF', hl, u, by rw [y_j hj]; exact hu, ?_⟩
    rw [← hj.comm]
    exact h'
  | (oj, .new X) :: A, hA, _, _, _, _, _, _, _ => by have := (hA _ List.mem_cons_self).2; cases this
  | (oj, .cha) :: A, hA, _, _, _, _, _, _, _ => by have := (hA _ List.mem_cons_self).2; cases this

/-- For each operation which ones it waits for, as bits. -/
def maskOf (R : Array Nat) (o : Oper) : Nat := o.after.toList.foldl (fun m e => if Region.binds .any e = true then (m ||| 2 ^ e.on) ||| R.getD e.on 0 else m) 0
def masks : List Oper → Array Nat → Array Nat
  | [], R => R
  | o :: l, R => masks l (R.push (maskOf R o))
theorem fold_bits (R : Array Nat) (j : Nat) : ∀ (l : List Edge) (m : Nat), (l.foldl (fun m e => if Region.binds .any e = true then (m ||| 2 ^ e.on) ||| R.getD e.on 0 else m) m).testBit j = true →
    m.testBit j = true ∨ ∃ e ∈ l, Region.binds .any e = true ∧ (e.on = j ∨ (R.getD e.on 0).testBit j = true)
  | [], m, h => .inl h
  | e :: l, m, h => by
    rw [List.foldl_cons] at h
    rcases fold_bits R j l _ h with h | ⟨e', he', hb, h⟩
    · by_cases hb : Region.binds .any e = true
      · rw [if_pos hb, Nat.testBit_or, Nat.testBit_or, Bool.or_eq_true, Bool.or_eq_true, Nat.testBit_two_pow, decide_eq_true_iff] at h
        rcases h with (h | h) | h
        · exact .inl h
        · exact .inr ⟨e, List.mem_cons_self, hb, .inl h⟩
        · exact .inr ⟨e, List.mem_cons_self, hb, .inr h⟩
      · rw [if_neg hb] at h; exact .inl h
    · exact .inr ⟨e', List.mem_cons_of_mem _ he', hb, h⟩
def Wt (ops : Array Oper) (i j : Nat) : Prop := ∃ f, waits ops f i j = true
theorem mask_wt {ops : Array Oper} {R : Array Nat} (hR : ∀ i j, (R.getD i 0).testBit j = true → Wt ops i j) {k : Nat} {o : Oper} (ho : ops[k]? = some o) {j : Nat} (h : (maskOf R o).testBit j = true) : Wt ops k j := by
  rcases fold_bits R j _ 0 h with h | ⟨e, he, hb, h⟩
  · simp at h
  · have hmem : e ∈ o.after := by simpa using he
    rcases h with h | h
    · refine ⟨1, ?_⟩
      simp only [waits, ho, Option.map_some, Option.getD_some, Bool.or_eq_true]
      rw [← Array.any_toList, ← Array.any_toList]
      exact .inl (List.any_eq_true.2 ⟨e, he, by simp [hb, h]⟩)
    · obtain ⟨f, hf⟩ := hR _ _ h
      refine ⟨f + 1, ?_⟩
      simp only [waits, ho, Option.map_some, Option.getD_some, Bool.or_eq_true]
      rw [← Array.any_toList, ← Array.any_toList]
      exact .inr (List.any_eq_true.2 ⟨e, he, by simp [hb, hf]⟩)
theorem masks_wt {ops : Array Oper} : ∀ (l : List Oper) (R : Array Nat), (∀ i j, (R.getD i 0).testBit j = true → Wt ops i j) → (∀ k, ops[R.size + k]? = l[k]?) → ∀ i j, ((masks l R).getD i 0).testBit j = true → Wt ops i j
  | [], R, hR, _ => hR
  | o :: l, R, hR, hl => masks_wt l (R.push (maskOf R o)) (fun i j h => by
      have ho : ops[R.size]? = some o := by have := hl 0; simpa using this
      by_cases hi : i = R.size
      · subst hi
        have e : (R.push (maskOf R o)).getD R.size 0 = maskOf R o := by simp
        rw [e] at h
        exact mask_wt hR ho h
      · have e : (R.push (maskOf R o)).getD i 0 = R.getD i 0 := by
          simp only [Array.getD_eq_getD_getElem?, Array.getElem?_push, if_neg hi]
        rw [e] at h
        exact hR i j h) (fun k => by
      have := hl (k + 1)
      rw [Array.size_push, Nat.add_assoc, Nat.add_comm 1 k]
      simpa using this)
theorem wt_of {ops : Array Oper} {i j : Nat} (h : ((masks ops.toList #[]).getD i 0).testBit j = true) : Wt ops i j :=
  masks_wt ops.toList #[] (fun i j h => by simp at h) (fun k => by simp) i j h
def mixR (ops : Array Oper) (R : Array Nat) (n : Nat) (kd : Nat → Kd) : Bool :=
  Region.noSelect ops && decide (n < ops.size) && ((List.range ops.size).all fun t => decide (t < n) || (List.range n).all fun i => (R.getD t 0).testBit i) &&
  (List.range n).all fun i => match ops[i]? with
    | none => false
    | some oi => oi.after.all (fun e => !Region.binds .any e || decide (e.on < i)) &&
      (List.range i).all fun j => match ops[j]? with
        | none => false
        | some oj => ((R.getD i 0).testBit j || oj.apart ops oi) && (!(kd i).isCha || (kd j).isFlo || (R.getD i 0).testBit j)
def mixW (ops : Array Oper) (n : Nat) (kd : Nat → Kd) : Bool := mixR ops (masks ops.toList #[]) n kd

end

section
variable {P : Program} {ops : Array Oper} {W : World} {S : List Nat} {Q : Exit → Act → World → Prop} {T : (World → Prop) → List Nat → Act → Prop}

theorem anyG (hS : ∀ k ∈ S, k < W.heap.size) {n g : Nat} {kd : Nat → Kd} (hB : mixW ops n kd = true) (hg : n + g = ops.size) (pr : Nat → Oper × Kd) (hpr : ∀ i o, ops[i]? = some o → pr i = (o, kd i))
    (hTN : ∀ F N N' a, (∀ b, b ∈ N → b ∈ N') → T F N a → T F N' a)
    (hT : ∀ F N a w, T F N a → GrS S W w → F w → wpAny P .any ops Q g (canonL n g) a w) :
    ∀ (m : Nat) (L : List Nat) (listed : Array Bool) (a : Act) (w : World) (F : World → Prop) (N : List Nat), L.length = m → HeadInv .any ops n listed → (∀ i, i ∈ L ↔ i < n ∧ listed.getD i true = false) → L.Pairwise (· < ·) →
      Known W S F N w → wpW P W S ops T (L.map pr) F N a → wpAny P .any ops Q (m + g) listed a w := by
  simp only [mixW, mixR, Bool.and_eq_true, decide_eq_true_eq] at hB
  obtain ⟨⟨⟨hsel, hn⟩, htail⟩, hall⟩ := hB
  have hget : ∀ i, i < n → ∃ oi, ops[i]? = some oi ∧ (∀ e ∈ oi.after, Region.binds .any e = true → e.on < i) ∧
      ∀ j, j < i → ∀ oj, ops[j]? = some oj → (((masks ops.toList #[]).getD i 0).testBit j || oj.apart ops oi) = true ∧ (!(kd i).isCha || (kd j).isFlo || ((masks ops.toList #[]).getD i 0).testBit j) = true := by
    intro i hi
    have h1 := List.all_eq_true.1 hall i (List.mem_range.2 hi)
    cases ho : ops[i]? with
    | none => simp [ho] at h1
    | some oi =>
      simp only [ho, Bool.and_eq_true] at h1
      obtain ⟨h3, h4⟩ := h1
      refine ⟨oi, rfl, fun e he hb => ?_, fun j hj oj hoj => ?_⟩
      · have := Array.all_eq_true_iff_forall_mem.1 h3 e he
        simp only [hb, Bool.not_true, Bool.false_or, decide_eq_true_eq] at this
        exact this
      · have h5 := List.all_eq_true.1 h4 j (List.mem_range.2 hj)
        simp only [hoj, Bool.and_eq_true] at h5
        exact h5
  intro m
  induction m with
  | zero =>
    intro L listed a w F N hm inv hL _ hkn h
    have hnil : L = [] := List.length_eq_zero_iff.1 hm
    subst hnil
    rw [Nat.zero_add]
    have : listed = canonL n (ops.size - n) := by
      refine Array.ext (by rw [inv.size]; simp [canonL]; omega) fun i h1 h2 => ?_
      rw [inv.size] at h1
      by_cases hi : i < n
      · have h3 : ¬ listed.getD i true = false := fun h => by have := (hL i).2 ⟨hi, h⟩; cases this
        have h4 := getD_tf h3 (by rw [inv.size]; exact h1)
        simp [inv.size, h1] at h4
        simp [canonL, hi, h4]
      · have h4 := inv.tail i (by omega) h1
        simp [inv.size, h1] at h4
        simp [canonL, Array.getElem_append, h4]; omega
    rw [this, show ops.size - n = g by omega]
    exact hT F N a w h hkn.gr hkn.fa
  | succ m ih =>
    intro L listed a w F N hm inv hL hp hkn h
    have hready : ∃ i0, i0 ∈ Region.ready .any ops listed ∧ i0 ∈ L := by
      cases L with
      | nil => simp at hm
      | cons i0 L =>
        have h0 := (hL i0).1 List.mem_cons_self
        obtain ⟨oi, ho, ha, _⟩ := hget i0 h0.1
        refine ⟨i0, mem_ready.2 ⟨h0.2, oi, ho, fun e he hb => ?_⟩, List.mem_cons_self⟩
        have hlt := ha e he hb
        refine getD_tf (fun hf => ?_) (by rw [inv.size]; omega)
        have hmem := (hL e.on).2 ⟨by omega, hf⟩
        rcases List.mem_cons.1 hmem with h' | h'
        · omega
        · have := (List.pairwise_cons.1 hp).1 _ h'; omega
    obtain ⟨i0, hr0, hm0⟩ := hready
    rw [show m + 1 + g = (m + g) + 1 by omega]
    refine ⟨fun h => (by rw [h] at hr0; cases hr0), fun i hi => ?_⟩
    have hin : i < n := by
      rcases Nat.lt_or_ge i n with h' | h'
      · exact h'
      · obtain ⟨_, ot, hot, hdt⟩ := mem_ready.1 hi
        have h1 := List.all_eq_true.1 htail i (List.mem_range.2 (Array.getElem?_eq_some_iff.1 hot).1)
        simp only [Bool.or_eq_true, decide_eq_true_eq] at h1
        have h2 := List.all_eq_true.1 (h1.resolve_left (by omega)) i0 (List.mem_range.2 ((hL i0).1 hm0).1)
        obtain ⟨f3, h2⟩ := wt_of h2
        have h3 := waits_listed inv.closed f3 i ot hot hdt h2
        rw [getD_both ((hL i0).1 hm0).2] at h3
        cases h3
    obtain ⟨hiun, oi', hoi', hdone⟩ := mem_ready.1 hi
    obtain ⟨oi, hoi, _, hrel⟩ := hget i hin
    obtain rfl : oi' = oi := Option.some.inj (hoi'.symm.trans hoi)
    have hiL : i ∈ L := (hL i).2 ⟨hin, hiun⟩
    obtain ⟨A, B, rfl⟩ := List.append_of_mem hiL
    have hpair := List.pairwise_append.1 hp
    have hAp : ∀ p ∈ A.map pr, Apt ops p.1 oi' ∧ ((kd i).isCha = true → p.2.isFlo = true) := by
      intro p hpm
      obtain ⟨j, hj, rfl⟩ := List.mem_map.1 hpm
      have hji : j < i := hpair.2.2 j hj i List.mem_cons_self
      have hjL := (hL j).1 (List.mem_append_left _ hj)
      obtain ⟨oj, hoj, _⟩ := hget j hjL.1
      have hno : ((masks ops.toList #[]).getD i 0).testBit j = false := by
        cases hq : ((masks ops.toList #[]).getD i 0).testBit j with
        | false => rfl
        | true =>
          obtain ⟨f3, hq⟩ := wt_of hq
          have := waits_listed inv.closed f3 i oi' hoi hdone hq
          rw [getD_both hjL.2] at this
          cases this
      have h5 := hrel j hji oj hoj
      rw [hno, Bool.false_or, Bool.or_false] at h5
      rw [hpr j oj hoj]
      refine ⟨⟨h5.1, fun cs b => Region.noSelect_spec hsel j oj cs b hoj, fun cs b => Region.noSelect_spec hsel i oi' cs b hoi⟩, fun hc => ?_⟩
      have := h5.2
      rw [hc] at this
      simpa using this
    have hL' : ∀ k, k ∈ A ++ B ↔ k < n ∧ (listed.setIfInBounds i true).getD k true = false := by
      intro k
      by_cases hki : k = i
      · subst hki
        have hlt : k < listed.size := by rw [inv.size]; omega
        have hnA : k ∉ A := fun hk => by have := hpair.2.2 k hk k List.mem_cons_self; omega
        have hnB : k ∉ B := fun hk => by have := (List.pairwise_cons.1 hpair.2.1).1 k hk; omega
        simp [hnA, hnB, hlt]
      · rw [getD_set_ne true (Ne.symm hki), ← hL k]
        simp [hki]
    have hp' : (A ++ B).Pairwise (· < ·) := List.pairwise_append.2 ⟨hpair.1, (List.pairwise_cons.1 hpair.2.1).2, fun x hx y hy => hpair.2.2 x hx y (List.mem_cons_of_mem _ hy)⟩
    have hm' : (A ++ B).length = m := by simp only [List.length_append, List.length_cons] at hm ⊢; omega
    have inv' := inv.set hi hin
    have go : ∀ (a' : Act) (w' : World) (F' : World → Prop) (N' : List Nat), Known W S F' N' w' → wpW P W S ops T (A.map pr ++ B.map pr) F' N' a' → wpAny P .any ops Q (m + g) (listed.setIfInBounds i true) a' w' :=
      fun a' w' F' N' h1 h4 => ih (A ++ B) _ a' w' F' N' hm' inv' hL' hp' h1 (by rw [List.map_append]; exact h4)
    rw [List.map_append, List.map_cons, hpr i oi' hoi] at h
    have put_ok : ∀ v w', (want ops oi' a = true → oi'.wp P a w (wpAny P .any ops Q (m + g) (listed.setIfInBounds i true)) Q) → (want ops oi' a = false → wpAny P .any ops Q (m + g) (listed.setIfInBounds i true) (a.put oi'.dst v) w') → v = undef → w' = w → wpOp P ops Q i (wpAny P .any ops Q (m + g) (listed.setIfInBounds i true)) a w := by
      intro v w' h1 h2 hv hw'
      subst hv; subst hw'
      unfold wpOp
      simp only [hoi]
      cases hq : Region.wanted oi' (yielded ops a.tmps) with
      | true => rw [if_pos rfl]; exact .inl (h1 hq)
      | false => rw [if_neg (by decide)]; exact h2 hq
    refine put_ok undef w ?_ ?_ rfl rfl
    · intro hq
      cases hk : kd i with
      | flo =>
        rw [hk] at h
        obtain ⟨v, hv⟩ := ex_flo (A.map pr) (fun p hp => (hAp p hp).1) F N a w hkn h
        have h2 := rem_flo (A.map pr) (fun p hp => (hAp p hp).1) F N a hv h
        unfold Oper.wp
        rcases hv with ⟨_, hv⟩ | ⟨e, _⟩
        · rcases hv w hkn.gr with he | ⟨he, rfl⟩
          · rw [he]; exact go _ w F N hkn h2
          · rw [he]; exact go _ w F N hkn h2
        · rw [hq] at e; cases e
      | new X =>
        rw [hk] at h
        have hv := ex_new (A.map pr) (fun p hp => (hAp p hp).1) F N a w hkn h
        have h2 := rem_new hTN hS hkn.gr.size (A.map pr) (fun p hp => (hAp p hp).1) F N a hkn.fresh h
        unfold Oper.wp
        rw [hv.2 w hkn.gr]
        exact go _ (w.alloc X) _ _ (hkn.new X) h2
      | cha =>
        rw [hk] at h hAp
        rcases rem_cha (A.map pr) (fun p hp => ⟨(hAp p hp).1, (hAp p hp).2 rfl⟩) F N a h w hkn.gr hkn.fa with ⟨_, hs⟩ | ⟨e, _⟩
        · exact hs.wp fun v w' ⟨hgr, F', M, hs', hF', hl, h'⟩ => go _ w' F' _ (hkn.call hgr hs' hF' hl) h'
        · rw [hq] at e; cases e
    · intro hq
      cases hk : kd i with
      | flo =>
        rw [hk] at h
        obtain ⟨v, hv⟩ := ex_flo (A.map pr) (fun p hp => (hAp p hp).1) F N a w hkn h
        have h2 := rem_flo (A.map pr) (fun p hp => (hAp p hp).1) F N a hv h
        rcases hv with ⟨e, _⟩ | ⟨_, rfl⟩
        · rw [hq] at e; cases e
        · exact go _ w F N hkn h2
      | new X =>
        rw [hk] at h
        have hv := ex_new (A.map pr) (fun p hp => (hAp p hp).1) F N a w hkn h
        rw [hv.1] at hq; cases hq
      | cha =>
        rw [hk] at h hAp
        rcases rem_cha (A.map pr) (fun p hp => ⟨(hAp p hp).1, (hAp p hp).2 rfl⟩) F N a h w hkn.gr hkn.fa with ⟨e, _⟩ | ⟨_, hgr, F', M, hs', hF', hl, h'⟩
        · rw [hq] at e; cases e
        · exact go _ w F' _ (hkn.call hgr hs' hF' hl) h'

theorem region_of_tail {id : Nat} {a : Act} {w : World} {F0 : World → Prop} (hF0s : Stb F0) (hF0 : F0 w.drew) (hS : ∀ k ∈ S, k < w.heap.size) {l : List Oper} {T : (World → Prop) → Act → Prop} (n : Nat) (ks : List Kd) (hm : P.follows .mixedOrders = true) (hB : mixW l.toArray n (fun i => ks.getD i .flo) = true) (hk : ks.length = n)
    (hT : ∀ F a w', T F a → GrS S w.drew w' → F w' → wpAny P .any l.toArray Q (l.length - n) (canonL n (l.length - n)) a w')
    (h : wpW P w.drew S l.toArray (fun F _ a' => T F a') ((l.take n).zip ks) F0 [] a) : (Code.region id l.toArray true).wp P Q a w := by
  have hn : n < l.length := by
    simp only [mixW, mixR, Bool.and_eq_true, decide_eq_true_eq] at hB
    simpa using hB.1.1.2
  refine wp_region_any hm ?_
  have inv0 : HeadInv .any l.toArray n (Array.replicate l.toArray.size false) :=
    ⟨by simp, fun j oj _ hl => (by rw [getD_replicate_false] at hl; cases hl), fun t _ ht => getD_in (by simpa using ht) (getD_replicate_false _ _)⟩
  have hzip : (l.take n).zip ks = (List.range n).map (fun i => (l.getD i default, ks.getD i .flo)) := by
    refine List.ext_getElem (by simp [hk]; omega) fun i h1 h2 => ?_
    have hi : i < n := by simpa using h2
    simp [List.getD, List.getElem?_eq_getElem (show i < l.length by omega), List.getElem?_eq_getElem (show i < ks.length by omega)]
  rw [hzip] at h
  have := anyG (P := P) (Q := Q) (W := w.drew) (S := S) hS (g := l.length - n) hB (by simp; omega) (fun i => (l.getD i default, ks.getD i .flo))
    (fun i o ho => by simp only [List.getElem?_toArray] at ho; simp [List.getD, ho])
    (fun F N N' a' _ h => h)
    (fun F N a' w' hT' hw hF => hT F a' w' hT' hw hF)
    n (List.range n) (Array.replicate l.toArray.size false) a w.drew F0 [] (by simp) inv0
    (fun i => by
      rw [List.mem_range]
      exact ⟨fun hi => ⟨hi, getD_in (by simp; omega) (getD_replicate_false _ _)⟩, fun h => h.1⟩)
    List.pairwise_lt_range ⟨hF0s, GrS.refl _ _, hF0, (fun b hb => by cases hb), fun b hb => by cases hb⟩ h
  rw [show n + (l.length - n) = l.toArray.size by simp; omega] at this
  exact this
/-- **ONE WALK IN THE ORDER OF THE TEXT**: n operations, each of its kind; then the tail, which keeps its order. -/
theorem wp_region_mix {id : Nat} {a : Act} {w : World} {l : List Oper} (n : Nat) (ks : List Kd) (hm : P.follows .mixedOrders = true) (hB : (mixW l.toArray n (fun i => ks.getD i .flo) && Region.seqB .any l.toArray (l.length - n) n (canonL n (l.length - n))) = true) (hk : ks.length = n)
    (h : wpW P w.drew [] l.toArray (fun F _ a' => ∀ w', Gr w.drew w' → F w' → wpList P l.toArray Q (l.drop n) a' w') ((l.take n).zip ks) (fun _ => True) [] a) : (Code.region id l.toArray true).wp P Q a w := by
  rw [Bool.and_eq_true] at hB
  refine region_of_tail (S := []) (F0 := fun _ => True) Stb.tt trivial (fun _ h => by cases h) (T := fun F a' => ∀ w', Gr w.drew w' → F w' → wpList P l.toArray Q (l.drop n) a' w') n ks hm hB.1 hk (fun F a' w' hT hw hF => ?_) h
  have hdl : (l.drop n).length = l.length - n := by simp
  have := wpAny_of_seq (md := .any) (Q' := Q) (l.drop n) n (canonL n (l.length - n)) a' w' (fun j => by simp [List.getElem?_drop]) (by rw [hdl]; exact hB.2) (hT w' hw.toGr hF)
  rwa [hdl] at this
/-- .. where a store into a block of S may stand among the operations. -/
theorem wp_region_mixS {id : Nat} {a : Act} {w : World} {l : List Oper} (S : List Nat) (F0 : World → Prop) (hF0s : Stb F0) (hF0 : F0 w.drew) (hS : ∀ k ∈ S, k < w.heap.size) (n : Nat) (ks : List Kd) (hm : P.follows .mixedOrders = true) (hB : (mixW l.toArray n (fun i => ks.getD i .flo) && Region.seqB .any l.toArray (l.length - n) n (canonL n (l.length - n))) = true) (hk : ks.length = n)
    (h : wpW P w.drew S l.toArray (fun F _ a' => ∀ w', GrS S w.drew w' → F w' → wpList P l.toArray Q (l.drop n) a' w') ((l.take n).zip ks) F0 [] a) : (Code.region id l.toArray true).wp P Q a w := by
  rw [Bool.and_eq_true] at hB
  refine region_of_tail (S := S) (F0 := F0) hF0s hF0 hS (T := fun F a' => ∀ w', GrS S w.drew w' → F w' → wpList P l.toArray Q (l.drop n) a' w') n ks hm hB.1 hk (fun F a' w' hT hw hF => ?_) h
  have hdl : (l.drop n).length = l.length - n := by simp
  have := wpAny_of_seq (md := .any) (Q' := Q) (l.drop n) n (canonL n (l.length - n)) a' w' (fun j => by simp [List.getElem?_drop]) (by rw [hdl]; exact hB.2) (hT w' hw hF)
  rwa [hdl] at this
end
section
variable {P : Program} {W : World} {S : List Nat} {ops : Array Oper} {T : (World → Prop) → List Nat → Act → Prop} {L : List (Oper × Kd)} {F : World → Prop} {N : List Nat} {a : Act} {o : Oper} {k : Kd}
/-- A step that is wanted: as in the walk without guards, with what follows as its tail. -/
theorem yes (hw : want ops o a = true) (h : wpG P W S (fun F N a => wpW P W S ops T L F N a) [(o, k)] F N a) : wpW P W S ops T ((o, k) :: L) F N a := by
  cases k with
  | flo =>
    obtain ⟨v, h1, h2⟩ := h
    exact ⟨v, .inl ⟨hw, h1⟩, h2⟩
  | new X => exact ⟨⟨hw, h.1⟩, h.2⟩
  | cha => exact fun w hg hF => .inl ⟨hw, h w hg hF⟩
/-- Steps that are not. -/
theorem no (hw : want ops o a = false) (h : wpW P W S ops T L F N (a.put o.dst undef)) : wpW P W S ops T ((o, .flo) :: L) F N a := ⟨undef, .inr ⟨hw, rfl⟩, h⟩
theorem noC (hw : want ops o a = false) (hF : Stb F) (h : wpW P W S ops T L F N (a.put o.dst undef)) : wpW P W S ops T ((o, .cha) :: L) F N a :=
  fun w _ hFw => .inr ⟨hw, (GrS.refl S w).d, F, [], hF, hFw, (fun _ hb => by cases hb), h⟩
theorem nil (h : T F N a) : wpW P W S ops T [] F N a := h
end
end Gd
end Go.Proofs.Ytafhncpaoolljaa
