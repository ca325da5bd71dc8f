/- The document of sha2: One of both kinds. -/
import Derived.Test.YtbjapmhfnegmeaaBigJ
import Derived.Test.YtbjapmhfnegmeaaBigK
import Derived.Test.YtbjapmhfnegmeaaShaN
namespace Go.Proofs.Ytbjapmhfnegmeaa.Big
set_option linter.unusedVariables false
open Go Go.RowKit
open Sha
theorem doneB_any (k : Int) (hk : Kind k) (s : ByteArray) (hs : s.size ≤ 500000) (w : World) :
    Calls Try.prog 8 #[.int .i64 k, .string s] w fun e w' => e = .returned (.tuple #[.string (sumS k s.data.toList), .int .i64 0]) ∧ Below w.heap.size w w' := by
  rcases hk with rfl | rfl
  · exact one32_any s (by omega) w
  · exact one64_any s (by omega) w
theorem doneB_no (k : Int) (hk : ¬ Kind k) (s : ByteArray) (w : World) :
    Calls Try.prog 8 #[.int .i64 k, .string s] w fun e w' => e = .returned (.tuple #[.string ⟨#[]⟩, .int .i64 30]) ∧ w = w' := by
  have k0 : (k != 0) = true := by rw [bne_iff_ne]; exact fun e => hk (.inl e)
  have k1 : (k != 1) = true := by rw [bne_iff_ne]; exact fun e => hk (.inr e)
  clear hk
  go_enter Try.func8, Try.ntmps8
  go_wp2_with fail
  go_ret2
  exact ⟨rfl, rfl⟩
end Go.Proofs.Ytbjapmhfnegmeaa.Big
