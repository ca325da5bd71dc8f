/- Manifest: Check of nothing. -/
import Derived.Test.YtafhncpaoolljaaManD
namespace Go.Proofs.Ytafhncpaoolljaa
set_option maxRecDepth 100000
set_option linter.unusedVariables false
open Go Go.RowKit

theorem verify_empty (a b : ByteArray) (w : World) : Calls Try.prog 27 #[.string a, .string b, .string ⟨#[]⟩] w fun e w' => e = .returned (.bool false) ∧ w = w' := by
  go_enter Try.func27, Try.ntmps27
  go_wp2_with fail
  go_ret
  exact ⟨rfl, rfl⟩
theorem check_empty (a b : ByteArray) (w : World) : Calls Try.prog 20 #[.string a, .string b, .string ⟨#[]⟩] w fun e w' => e = .returned (.int .i64 223) ∧ w = w' := by
  go_enter Try.func20, Try.ntmps20
  go_wp2_with fail
  refine (verify_empty a b _).mono ?_
  rintro e w1 ⟨rfl, rfl⟩
  go_wp2_with fail
  go_ret
  exact ⟨rfl, rfl⟩
end Go.Proofs.Ytafhncpaoolljaa
