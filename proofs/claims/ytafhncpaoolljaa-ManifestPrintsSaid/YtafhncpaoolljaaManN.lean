/- Manifest: what is printed is parsed as it was; what is parsed is printed as it was. -/
import Derived.Test.YtafhncpaoolljaaManM
namespace Go.Proofs.Ytafhncpaoolljaa
set_option maxRecDepth 100000
set_option linter.unusedVariables false
open Go Go.RowKit

structure SM.May (x : SM) : Prop where
  sum : x.sum.size = 32
  some : 1 ≤ x.name.size
  few : x.name.size ≤ 100
  all : ∀ c ∈ x.name.data.toList, 32 < c.toNat ∧ c.toNat < 127
theorem SM.may_iff (x : SM) : x.may = true ↔ x.May := by
  unfold SM.may
  rw [Bool.and_eq_true, Bool.and_eq_true, Bool.and_eq_true, decide_eq_true_iff, decide_eq_true_iff, decide_eq_true_iff, List.all_eq_true]
  constructor
  · rintro ⟨⟨⟨h1, h2⟩, h3⟩, h4⟩
    exact ⟨h1, h2, h3, fun c hc => of_decide_eq_true (h4 c hc)⟩
  · rintro ⟨h1, h2, h3, h4⟩
    exact ⟨⟨⟨h1, h2⟩, h3⟩, fun c hc => decide_eq_true (h4 c hc)⟩
theorem SM.may_no (x : SM) : x.may = false ↔ ¬ x.May := by rw [← SM.may_iff]; cases x.may <;> simp
theorem ba_len (s : ByteArray) : s.data.toList.length = s.size := Array.length_toList
/-- A line ahead of its end. -/
def SM.head (x : SM) : List UInt8 := hexL x.sum.data.toList ++ [32, 32] ++ x.name.data.toList
theorem SM.line_eq (x : SM) : x.line = x.head ++ [10] := rfl
theorem SM.head_no {x : SM} (h : x.May) : 10 ∉ x.head := by
  unfold SM.head
  simp only [List.mem_append, not_or]
  refine ⟨⟨fun hm => (hexL_no _ _ hm).2 rfl, by decide⟩, fun hm => ?_⟩
  have := h.all _ hm
  exact absurd this.1 (by decide)
theorem SM.hex_len {x : SM} (h : x.May) : (hexL x.sum.data.toList).length = 64 := by rw [hexL_len, ba_len, h.sum]
theorem SM.head_parts {x : SM} (h : x.May) : x.head.take 64 = hexL x.sum.data.toList ∧ (x.head.drop 64).take 2 = [32, 32] ∧ x.head.drop 66 = x.name.data.toList ∧ 67 ≤ x.head.length := by
  have hl := SM.hex_len h
  have hn := h.some
  unfold SM.head
  refine ⟨?_, ?_, ?_, ?_⟩
  · rw [List.append_assoc, List.take_append_of_le_length (by omega), List.take_of_length_le (by omega)]
  · rw [List.append_assoc, List.drop_append_of_le_length (by omega), List.drop_of_length_le (by omega)]; rfl
  · rw [List.drop_append_of_le_length (by simp; omega), List.drop_of_length_le (by simp; omega)]; rfl
  · simp only [List.length_append, List.length_cons, List.length_nil, hl]; rw [ba_len]; omega
theorem lineM_head {x : SM} (h : x.May) : lineM x.head = some x := by
  obtain ⟨e1, e2, e3, e4⟩ := SM.head_parts h
  unfold lineM
  rw [e1, unhex_hex]
  dsimp only
  rw [e2, e3]
  have hx : (⟨⟨x.name.data.toList.toArray⟩, ⟨x.sum.data.toList.toArray⟩⟩ : SM) = x := by rw [SM.eq_iff]; exact ⟨by simp, by simp⟩
  rw [hx, if_pos ⟨e4, rfl, (SM.may_iff x).2 h⟩]
theorem lineM_some {s : List UInt8} {x : SM} (h : lineM s = some x) : x.May ∧ x.head = s := by
  unfold lineM at h
  split at h
  · cases h
  · rename_i d hd
    split at h
    · rename_i hc
      injection h with h
      obtain ⟨h1, h2, h3⟩ := hc
      subst h
      refine ⟨(SM.may_iff _).1 h3, ?_⟩
      unfold SM.head
      show hexL d ++ [32, 32] ++ s.drop 66 = s
      rw [hex_unhex _ _ hd, ← h2]
      have e : s.drop 66 = (s.drop 64).drop 2 := by rw [List.drop_drop]
      rw [e, List.append_assoc, List.take_append_drop, List.take_append_drop]
    · cases h
theorem textM_cons (x : SM) (l : List SM) : textM (x :: l) = x.head ++ 10 :: textM l := by
  unfold textM
  rw [List.map_cons, List.flatten_cons, SM.line_eq, List.append_assoc]; rfl
theorem linesM_text : ∀ (l : List SM), (∀ x ∈ l, x.May) → ∀ n, (textM l).length < n → linesM n (textM l) = some l
  | [], _, n + 1, _ => by rw [linesM]; exact if_pos rfl
  | x :: l, h, n + 1, hn => by
    have hx := h x List.mem_cons_self
    rw [linesM, if_neg (by rw [textM_cons]; simp), textM_cons, cutL_mk _ _ (SM.head_no hx)]
    dsimp only
    rw [lineM_head hx]
    dsimp only
    rw [linesM_text l (fun y hy => h y (List.mem_cons_of_mem _ hy)) n (by rw [textM_cons] at hn; simp at hn; omega)]
    rfl
theorem linesM_back : ∀ (n : Nat) (s : List UInt8) (l : List SM), linesM n s = some l → textM l = s ∧ ∀ x ∈ l, x.May
  | 0, _, _, h => by cases h
  | n + 1, s, l, h => by
    rw [linesM] at h
    split at h
    · rename_i hs
      injection h with h
      subst h; subst hs; exact ⟨rfl, fun x hx => by cases hx⟩
    · cases hc : cutL s with
      | none => rw [hc] at h; cases h
      | some p =>
        obtain ⟨a, b⟩ := p
        rw [hc] at h
        dsimp only at h
        cases ha : lineM a with
        | none => rw [ha] at h; cases h
        | some x =>
          rw [ha] at h
          dsimp only at h
          cases hb : linesM n b with
          | none => rw [hb] at h; cases h
          | some r =>
            rw [hb] at h
            injection h with h
            obtain ⟨h1, h2⟩ := lineM_some ha
            obtain ⟨h3, h4⟩ := linesM_back n b r hb
            subst h
            refine ⟨by rw [textM_cons, h2, h3, (cutL_some hc).1], fun y hy => ?_⟩
            rcases List.mem_cons.1 hy with rfl | hy
            · exact h1
            · exact h4 y hy
theorem mays_iff (l : List SM) : l.all SM.may = true ↔ ∀ x ∈ l, x.May := by
  rw [List.all_eq_true]; exact ⟨fun h x hx => (SM.may_iff x).1 (h x hx), fun h x hx => (SM.may_iff x).2 (h x hx)⟩
theorem printM_ok {F T : Int} (hF : F ≠ 0) (hT : T ≠ 0) {l : List SM} {t : List UInt8} (h : printM F T l = (t, 0)) : t = textM l ∧ (∀ x ∈ l, x.May) ∧ 1 ≤ l.length ∧ l.length ≤ 16 ∧ onceM l = true := by
  unfold printM at h
  split at h
  · injection h with _ h; exact absurd h hF
  · split at h
    · injection h with _ h; exact absurd h hF
    · split at h
      · injection h with _ h; exact absurd h hT
      · rename_i h1 h2 h3
        injection h with h _
        exact ⟨h.symm, (mays_iff l).1 (by simpa using h2), by omega, by omega, by simpa using h3⟩
theorem print_parse {F T : Int} (hF : F ≠ 0) (hT : T ≠ 0) {l : List SM} {t : List UInt8} (h : printM F T l = (t, 0)) : parseM F T t = (l, 0) := by
  obtain ⟨rfl, h1, _⟩ := printM_ok hF hT h
  unfold parseM
  rw [linesM_text l h1 _ (Nat.lt_succ_self _)]
  dsimp only
  rw [if_pos (by rw [h])]
theorem printM_text {F T : Int} {l : List SM} (h : (printM F T l).2 = 0) (hF : F ≠ 0) (hT : T ≠ 0) : printM F T l = (textM l, 0) := by
  have := printM_ok hF hT (t := (printM F T l).1) (l := l) (by rw [← h])
  rw [← this.1, ← h]
theorem parse_print {F T : Int} (hF : F ≠ 0) (hT : T ≠ 0) {l : List SM} {s : List UInt8} (h : parseM F T s = (l, 0)) : printM F T l = (s, 0) := by
  unfold parseM at h
  cases hl : linesM (s.length + 1) s with
  | none => rw [hl] at h; injection h with _ h; exact absurd h hF
  | some r =>
    rw [hl] at h
    dsimp only at h
    split at h
    · rename_i h0
      injection h with h _
      subst h
      rw [printM_text h0 hF hT, (linesM_back _ _ _ hl).1]
    · rename_i h0
      injection h with _ h; exact absurd h h0
theorem parse_len {F T : Int} {l : List SM} {s : List UInt8} {e : Int} (h : parseM F T s = (l, e)) (he : e ≠ 0) : l = [] := by
  unfold parseM at h
  cases hl : linesM (s.length + 1) s with
  | none => rw [hl] at h; injection h with h _; exact h.symm
  | some r =>
    rw [hl] at h
    dsimp only at h
    split at h
    · injection h with _ h; exact absurd h.symm he
    · injection h with h _; exact h.symm
end Go.Proofs.Ytafhncpaoolljaa
