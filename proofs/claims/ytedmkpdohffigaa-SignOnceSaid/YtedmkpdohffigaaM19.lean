/- The document's numbers: Roots. -/
import Derived.Test.YtedmkpdohffigaaM18
namespace Go.Proofs.Ytedmkpdohffigaa.Fe
set_option linter.unusedVariables false
open Go Go.RowKit

/-- The roots that are tried. -/
def n5 : Nat := (fp - 5) / 2 ^ 3
def n1 : Nat := (fp - 1) / 2 ^ 2
def tryR (a : Nat) : Nat → Nat
  | 0 => a * (a ^ n5 % fp) % fp
  | k + 1 => tryR a k * (2 ^ n1 % fp) % fp
theorem tryR_dw (a k : Nat) : tryR a k < dw 16 := by cases k <;> exact mod_dw _
theorem tryR_lt (a k : Nat) : tryR a k < fp := by cases k <;> exact Nat.mod_lt _ fp_pos
def evenR (r : Nat) : Nat := if r % 2 = 1 then fp - r else r
def rtN (a : Nat) : Nat × Bool :=
  if tryR a 0 * tryR a 0 % fp = a then (evenR (tryR a 0), true)
  else if tryR a 1 * tryR a 1 % fp = a then (evenR (tryR a 1), true) else (0, false)
theorem rtN_hit {a k : Nat} (hk : k < 2) (h : tryR a k * tryR a k % fp = a) (h0 : ∀ j, j < k → tryR a j * tryR a j % fp ≠ a) : rtN a = (evenR (tryR a k), true) := by
  unfold rtN
  match k, hk with
  | 0, _ => rw [if_pos h]
  | 1, _ => rw [if_neg (h0 0 (by omega)), if_pos h]
theorem rtN_miss {a : Nat} (h0 : ∀ j, j < 2 → tryR a j * tryR a j % fp ≠ a) : rtN a = (0, false) := by
  unfold rtN
  rw [if_neg (h0 0 (by omega)), if_neg (h0 1 (by omega))]
theorem dw16_256 : dw 16 = 256 ^ 32 := by decide
theorem eqS_yes (x : Nat) : ((sbytes x).toList == (sbytes x).toList) = true := seq_yes _
theorem eqS_no {x y : Nat} (hx : x < dw 16) (hy : y < dw 16) (h : x ≠ y) : ((sbytes x).toList == (sbytes y).toList) = false :=
  seq_no fun e => h (sbytes_inj (by rwa [← dw16_256]) (by rwa [← dw16_256]) e)
/-- A result in a block, and one in a slot. -/
theorem results_row_tmp {P : Program} {fn : Func} {p q : Tmp} {ty : TypeId} (h : fn.results = #[.cell p ty, .tmp q]) (tmps : Array Value) (w : World) (g : Nat) (t : TypeId) (cs : Array Value) (v : Value) (d : TypeDesc)
    (hp : tmps.getD p undef = .pointer (some ⟨g, 0, none⟩)) (hg : w.heap[g]? = some (.cells cs t (0, 0))) (hq : tmps.getD q undef = v)
    (hu : P.underlying ty = some d) (hd : (match d with | .struct _ | .array _ _ => true | _ => false) = true) (hi : (P.info? ty).map (·.size) = some cs.size) :
    (results fn tmps).run P w = .ok (.tuple #[.agg cs, v]) w := by
  have hp' : tmps[p]?.getD undef = .pointer (some ⟨g, 0, none⟩) := by simpa using hp
  have hq' : tmps[q]?.getD undef = v := by simpa using hq
  simp [results, h, hp', hq', asAddr, run_loadVar_row w g t ty cs (0, 0) d hg hu hd hi]
theorem n5_dw : n5 < dw 16 := Nat.lt_of_le_of_lt (Nat.div_le_self _ _) (Nat.lt_of_le_of_lt (Nat.sub_le _ _) fp_dw)
theorem n1_dw : n1 < dw 16 := Nat.lt_of_le_of_lt (Nat.div_le_self _ _) (Nat.lt_of_le_of_lt (Nat.sub_le _ _) fp_dw)
end Go.Proofs.Ytedmkpdohffigaa.Fe
