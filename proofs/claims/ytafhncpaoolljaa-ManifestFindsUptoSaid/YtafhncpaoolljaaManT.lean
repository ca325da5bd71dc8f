/- Manifest: the answers of fixed's calls, plainly. -/
import Derived.Test.YtafhncpaoolljaaManK
import Derived.Test.YtafhncpaoolljaaManE
namespace Go.Proofs.Ytafhncpaoolljaa
set_option maxRecDepth 100000
set_option linter.unusedVariables false
open Go Go.RowKit

/-- fixed's sum. -/
def x0M : SM := ⟨⟨#[97]⟩, ⟨(List.replicate 32 (0 : UInt8)).toArray⟩⟩
theorem x0_may : x0M.May := ⟨rfl, by decide, by decide, by decide⟩
theorem x0_once1 : onceM [x0M] = true := rfl
theorem x0_once2 : onceM [x0M, x0M] = false := by unfold onceM; simp
theorem all_x0 (l : List SM) (h : ∀ x ∈ l, x = x0M) : ∀ x ∈ l, x.May := fun x hx => (h x hx) ▸ x0_may
theorem printM_x1 : printM 220 221 [x0M] = (textM [x0M], 0) := by
  unfold printM
  rw [if_neg (by simp), if_neg (by rw [(mays_iff _).2 (all_x0 _ (by simp))]; decide), if_neg (by rw [x0_once1]; decide)]
theorem printM_x2 : printM 220 221 [x0M, x0M] = ([], 221) := by
  unfold printM
  rw [if_neg (by simp), if_neg (by rw [(mays_iff _).2 (all_x0 _ (by simp))]; decide), if_pos x0_once2]
theorem prV_x1 : prV [x0M] = .tuple #[.string ⟨(textM [x0M]).toArray⟩, .int .i64 0] := by unfold prV; rw [printM_x1]
theorem prV_x2 : prV [x0M, x0M] = .tuple #[.string ⟨#[]⟩, .int .i64 221] := by unfold prV; rw [printM_x2]
theorem parse_x1 : parseM 220 221 (textM [x0M]) = ([x0M], 0) := print_parse (by decide) (by decide) printM_x1
theorem parse_x2 : parseM 220 221 (textM [x0M] ++ textM [x0M]) = ([], 221) := by
  have e : textM [x0M] ++ textM [x0M] = textM [x0M, x0M] := by unfold textM; simp
  rw [e]
  unfold parseM
  rw [linesM_text _ (all_x0 _ (by simp)) _ (Nat.lt_succ_self _)]
  dsimp only
  rw [printM_x2]; rfl
theorem parse_x0 : parseM 220 221 [] = ([], 220) := by
  rw [parseM_eq, lns_nil]
  dsimp only
  rw [printM_none]; rfl
theorem text_x : (textM [x0M]).length = 68 ∧ (textM [x0M]).drop 63 = [48, 32, 32, 97, 10] := by decide
theorem find_x : fndV [x0M] ⟨#[98]⟩ = .tuple #[.string ⟨#[]⟩, .int .i64 222] ∧ fndV [x0M] ⟨#[97]⟩ = .tuple #[.string x0M.sum, .int .i64 0] := by
  refine ⟨?_, ?_⟩
  · unfold fndV findM
    rw [List.find?_cons_of_neg (by decide)]; rfl
  · unfold fndV findM
    rw [List.find?_cons_of_pos (by decide)]
end Go.Proofs.Ytafhncpaoolljaa
