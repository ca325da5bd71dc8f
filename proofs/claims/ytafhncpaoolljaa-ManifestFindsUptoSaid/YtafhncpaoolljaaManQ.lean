/- Manifest: digits read one by one: the program's way, the document's. -/
import Derived.Test.YtafhncpaoolljaaManP
import Derived.Lib.Bytealg
namespace Go.Proofs.Ytafhncpaoolljaa
set_option maxRecDepth 100000
set_option linter.unusedVariables false
open Go Go.RowKit

/-- The digits, in order. -/
def digsM : List UInt8 := [48, 49, 50, 51, 52, 53, 54, 55, 56, 57, 97, 98, 99, 100, 101, 102]
theorem digs_at : ∀ n, n < 16 → digsM[n]? = some (dgM n) := by decide
theorem digs_index (c : UInt8) : Lib.indexByte digsM c = match valM c with | none => -1 | some n => (n : Int) := by
  have h : ∀ k, k < 256 → Lib.indexByte digsM (UInt8.ofNat k) = match valM (UInt8.ofNat k) with | none => -1 | some n => (n : Int) := by decide
  have := h c.toNat c.toNat_lt
  rwa [UInt8.ofNat_toNat] at this
/-- What the document makes of a digit, and of two. -/
def f2M (c : UInt8) : Int := if 48 ≤ c.toNat ∧ c.toNat ≤ 57 then (c.toNat : Int) - 48 else (c.toNat : Int) - 97 + 10
def prM (a b : UInt8) : UInt8 := UInt8.ofNat ((16 * f2M a + f2M b) % 256).toNat
def prsM : List UInt8 → List UInt8
  | a :: b :: l => prM a b :: prsM l
  | _ => []
theorem f2_val {c : UInt8} {n : Nat} (h : valM c = some n) : f2M c = n := by
  unfold valM at h
  unfold f2M
  split at h
  · rename_i h1
    injection h with h
    rw [if_pos h1]; omega
  · rename_i h0
    split at h
    · rename_i h1
      injection h with h
      rw [if_neg h0]; omega
    · cases h
theorem prs_unhex : ∀ (s l : List UInt8), unhexL s = some l → prsM s = l
  | [], l, h => by rw [unhexL] at h; injection h
  | [_], l, h => by rw [unhexL] at h; cases h
  | a :: b :: s, l, h => by
    rw [unhexL] at h
    cases ha : valM a with
    | none => simp [ha] at h
    | some x =>
      cases hb : valM b with
      | none => simp [ha, hb] at h
      | some y =>
        cases hs : unhexL s with
        | none => simp [ha, hb, hs] at h
        | some r =>
          simp only [ha, hb, hs, Option.some.injEq] at h
          have h1 := (val_dg ha).1
          have h2 := (val_dg hb).1
          rw [prsM, prs_unhex s r hs, ← h]
          congr 1
          unfold prM
          rw [f2_val ha, f2_val hb]
          congr 1; omega
/-- The document's test. -/
theorem unhex_test (s : List UInt8) : unhexL s = if hexL (prsM s) = s then some (prsM s) else none := by
  by_cases h : hexL (prsM s) = s
  · rw [if_pos h]
    have := unhex_hex (prsM s)
    rwa [h] at this
  · rw [if_neg h]
    cases hu : unhexL s with
    | none => rfl
    | some l =>
      have e := prs_unhex s l hu
      have := hex_unhex s l hu
      rw [← e] at this
      exact absurd this h
/-- Pairs, one more. -/
theorem prs_snoc : ∀ (s : List UInt8) (a b : UInt8), s.length % 2 = 0 → prsM (s ++ [a, b]) = prsM s ++ [prM a b]
  | [], a, b, _ => rfl
  | [_], a, b, h => by simp at h
  | x :: y :: s, a, b, h => by
    show prM x y :: prsM (s ++ [a, b]) = _
    rw [prs_snoc s a b (by simp at h; omega)]; rfl
theorem unhex_snoc : ∀ (s : List UInt8) (a b : UInt8), s.length % 2 = 0 → unhexL (s ++ [a, b]) = match unhexL s, valM a, valM b with
    | some r, some x, some y => some (r ++ [UInt8.ofNat (16 * x + y)]) | _, _, _ => none
  | [], a, b, _ => by
    show unhexL [a, b] = _
    rw [unhexL, unhexL]
    cases valM a <;> cases valM b <;> rfl
  | [_], a, b, h => by simp at h
  | x :: y :: s, a, b, h => by
    show unhexL (x :: y :: (s ++ [a, b])) = _
    rw [unhexL, unhexL, unhex_snoc s a b (by simp at h; omega)]
    cases valM x <;> cases valM y <;> cases unhexL s <;> cases valM a <;> cases valM b <;> rfl
/-- A part that is none makes none of the whole. -/
theorem unhex_app : ∀ (s t : List UInt8), s.length % 2 = 0 → unhexL s = none → unhexL (s ++ t) = none
  | [], t, _, h => by rw [unhexL] at h; cases h
  | [_], t, h, _ => by simp at h
  | x :: y :: s, t, hl, h => by
    show unhexL (x :: y :: (s ++ t)) = none
    rw [unhexL] at h ⊢
    cases hx : valM x with
    | none => rfl
    | some a =>
      cases hy : valM y with
      | none => rfl
      | some b =>
        cases hs : unhexL s with
        | some r => simp [hx, hy, hs] at h
        | none => rw [unhex_app s t (by simp at hl; omega) hs]
theorem unhex_odd : ∀ (s : List UInt8), s.length % 2 = 1 → unhexL s = none
  | [], h => by simp at h
  | [_], _ => rfl
  | x :: y :: s, h => by
    rw [unhexL, unhex_odd s (by simp at h; omega)]
    cases valM x <;> cases valM y <;> rfl
end Go.Proofs.Ytafhncpaoolljaa
