/- Manifest: the plain answers: digits, names, lines, texts. -/
import Derived.Test.YtafhncpaoolljaaBase
namespace Go.Proofs.Ytafhncpaoolljaa
set_option maxRecDepth 100000
set_option linter.unusedVariables false
open Go Go.RowKit

/-- A file's sum. -/
structure SM where
  name : ByteArray
  sum : ByteArray
theorem SM.eq_iff (a b : SM) : a = b ↔ (a.name = b.name ∧ a.sum = b.sum) :=
  ⟨fun h => by subst h; exact ⟨rfl, rfl⟩, fun ⟨h1, h2⟩ => by cases a; cases b; simp only at h1 h2; subst h1 h2; rfl⟩
instance : DecidableEq SM := fun a b => decidable_of_iff _ (SM.eq_iff a b).symm
/-- A digit of sixteen. -/
def dgM (n : Nat) : UInt8 := if n < 10 then UInt8.ofNat (48 + n) else UInt8.ofNat (87 + n)
def hexL : List UInt8 → List UInt8
  | [] => []
  | b :: l => dgM (b.toNat / 16) :: dgM (b.toNat % 16) :: hexL l
def valM (c : UInt8) : Option Nat := if 48 ≤ c.toNat ∧ c.toNat ≤ 57 then some (c.toNat - 48) else if 97 ≤ c.toNat ∧ c.toNat ≤ 102 then some (c.toNat - 87) else none
def unhexL : List UInt8 → Option (List UInt8)
  | [] => some []
  | [_] => none
  | a :: b :: l => match valM a, valM b, unhexL l with
    | some x, some y, some r => some (UInt8.ofNat (16 * x + y) :: r)
    | _, _, _ => none
theorem dg_val : ∀ n, n < 16 → valM (dgM n) = some n := by decide
theorem val_dg {c : UInt8} {n : Nat} (h : valM c = some n) : n < 16 ∧ dgM n = c := by
  unfold valM at h
  have hc := c.toNat_lt
  split at h
  · rename_i h1
    injection h with h
    refine ⟨by omega, ?_⟩
    rw [← h]; unfold dgM
    rw [if_pos (by omega), ← UInt8.toNat_inj, UInt8.toNat_ofNat']; omega
  · split at h
    · rename_i h1
      injection h with h
      refine ⟨by omega, ?_⟩
      rw [← h]; unfold dgM
      rw [if_neg (by omega), ← UInt8.toNat_inj, UInt8.toNat_ofNat']; omega
    · cases h
theorem hexL_len : ∀ l, (hexL l).length = 2 * l.length
  | [] => rfl
  | b :: l => by simp only [hexL, List.length_cons, hexL_len l]; omega
theorem hexL_app : ∀ a b, hexL (a ++ b) = hexL a ++ hexL b
  | [], _ => rfl
  | x :: a, b => by simp [hexL, hexL_app a b]
theorem unhex_hex : ∀ l, unhexL (hexL l) = some l
  | [] => rfl
  | b :: l => by
    have hb := b.toNat_lt
    rw [hexL, unhexL, dg_val _ (by omega), dg_val _ (by omega), unhex_hex l]
    simp only [Option.some.injEq, List.cons.injEq, and_true]
    rw [← UInt8.toNat_inj, UInt8.toNat_ofNat']; omega
theorem hex_unhex : ∀ (s l : List UInt8), unhexL s = some l → hexL l = s
  | [], l, h => by rw [unhexL] at h; injection h with h; rw [← h]; rfl
  | [_], l, h => by rw [unhexL] at h; cases h
  | a :: b :: s, l, h => by
    rw [unhexL] at h
    cases ha : valM a with
    | none => simp [ha] at h
    | some x =>
      cases hb : valM b with
      | none => simp [ha, hb] at h
      | some y =>
        cases hs : unhexL s with
        | none => simp [ha, hb, hs] at h
        | some r =>
          simp only [ha, hb, hs, Option.some.injEq] at h
          obtain ⟨h1, h2⟩ := val_dg ha
          obtain ⟨h3, h4⟩ := val_dg hb
          rw [← h, hexL, hex_unhex s r hs, UInt8.toNat_ofNat', show (16 * x + y) % 2 ^ 8 = 16 * x + y by omega, show (16 * x + y) / 16 = x by omega, show (16 * x + y) % 16 = y by omega, h2, h4]
/-- A digit is no blank, no end of a line. -/
theorem dg_no (n : Nat) (h : n < 16) : dgM n ≠ 32 ∧ dgM n ≠ 10 := by
  have : ∀ n, n < 16 → dgM n ≠ 32 ∧ dgM n ≠ 10 := by decide
  exact this n h
theorem hexL_no : ∀ (l : List UInt8) (c : UInt8), c ∈ hexL l → c ≠ 32 ∧ c ≠ 10
  | [], c, h => by cases h
  | b :: l, c, h => by
    have hb := b.toNat_lt
    simp only [hexL, List.mem_cons] at h
    rcases h with rfl | rfl | h
    · exact dg_no _ (by omega)
    · exact dg_no _ (by omega)
    · exact hexL_no l c h
/-- A name's byte. -/
def nmB (c : UInt8) : Bool := decide (32 < c.toNat ∧ c.toNat < 127)
/-- May a sum be? -/
def SM.may (x : SM) : Bool := decide (x.sum.size = 32) && decide (1 ≤ x.name.size) && decide (x.name.size ≤ 100) && x.name.data.toList.all nmB
def SM.line (x : SM) : List UInt8 := hexL x.sum.data.toList ++ [32, 32] ++ x.name.data.toList ++ [10]
def textM (l : List SM) : List UInt8 := (l.map SM.line).flatten
/-- Has each sum a name of its own? -/
def onceM : List SM → Bool
  | [] => true
  | x :: l => l.all (fun y => decide (y.name ≠ x.name)) && onceM l
/-- Print: the errors are 210 (form), 211 (twice): see the api. -/
def printM (F T : Int) (l : List SM) : List UInt8 × Int :=
  if l.length < 1 ∨ 16 < l.length then ([], F) else
  if l.all SM.may = false then ([], F) else
  if onceM l = false then ([], T) else (textM l, 0)
/-- What ahead of an end stands, and what behind it. -/
def cutL (s : List UInt8) : Option (List UInt8 × List UInt8) :=
  match s with
  | [] => none
  | c :: s => if c = 10 then some ([], s) else (cutL s).map fun p => (c :: p.1, p.2)
/-- A line's sum. -/
def lineM (s : List UInt8) : Option SM :=
  match unhexL (s.take 64) with
  | none => none
  | some d => if 67 ≤ s.length ∧ (s.drop 64).take 2 = [32, 32] ∧ (SM.mk ⟨(s.drop 66).toArray⟩ ⟨d.toArray⟩).may = true then some ⟨⟨(s.drop 66).toArray⟩, ⟨d.toArray⟩⟩ else none
theorem cutL_some : ∀ {s a b : List UInt8}, cutL s = some (a, b) → s = a ++ 10 :: b ∧ 10 ∉ a
  | [], _, _, h => by cases h
  | c :: s, a, b, h => by
    rw [cutL] at h
    split at h
    · rename_i hc
      injection h with h; injection h with h1 h2
      subst h1; subst h2; exact ⟨by rw [hc]; rfl, by simp⟩
    · rename_i hc
      cases hs : cutL s with
      | none => rw [hs] at h; cases h
      | some p =>
        obtain ⟨x, y⟩ := p
        rw [hs] at h
        simp only [Option.map_some, Option.some.injEq, Prod.mk.injEq] at h
        obtain ⟨e1, e2⟩ := cutL_some hs
        obtain ⟨rfl, rfl⟩ := h
        exact ⟨by rw [e1]; rfl, fun hm => (List.mem_cons.1 hm).elim (fun h => hc h.symm) e2⟩
theorem cutL_none : ∀ {s : List UInt8}, cutL s = none → 10 ∉ s
  | [], _ => by simp
  | c :: s, h => by
    rw [cutL] at h
    split at h
    · cases h
    · rename_i hc
      have hs : cutL s = none := by
        cases hs : cutL s with
        | none => rfl
        | some p => rw [hs] at h; cases h
      exact fun hm => (List.mem_cons.1 hm).elim (fun h => hc h.symm) (cutL_none hs)
theorem cutL_mk : ∀ (a b : List UInt8), 10 ∉ a → cutL (a ++ 10 :: b) = some (a, b)
  | [], b, _ => by rw [List.nil_append, cutL, if_pos rfl]
  | c :: a, b, h => by
    rw [List.cons_append, cutL, if_neg (fun e => h (by simp [e])), cutL_mk a b (fun hm => h (List.mem_cons_of_mem _ hm))]; rfl
theorem cutL_len {s a b : List UInt8} (h : cutL s = some (a, b)) : b.length < s.length := by
  rw [(cutL_some h).1]; simp; omega
/-- The sums of a text: each line's. -/
def linesM : Nat → List UInt8 → Option (List SM)
  | 0, _ => none
  | n + 1, s => if s = [] then some [] else
    match cutL s with
    | none => none
    | some (a, b) => match lineM a with
      | none => none
      | some x => (linesM n b).map (x :: ·)
def parseM (F T : Int) (s : List UInt8) : List SM × Int :=
  match linesM (s.length + 1) s with
  | none => ([], F)
  | some l => if (printM F T l).2 = 0 then (l, 0) else ([], (printM F T l).2)
end Go.Proofs.Ytafhncpaoolljaa
