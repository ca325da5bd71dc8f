/-
  No cell of these rows narrows 'for every input' (looked for: loops, veiled, ifaces, maps, wideKeys, modest, calm, conditions, laid).
  DERIVED. THE GIVEN ROWS OF THIS SEAT. 7 by the template 'for every input the law returns true; each argument reads behind the call as it read before'; 0 by the template 'total and deterministic' (their statements: YtilehlgnkfjcpaaTotals.lean).
  GIVEN WITH THE SEED: the statements are not yours to turn. If you find one false, say at which input.
  Laid BY PROGRAM, IN A SANDBOX (cutbox-rows.mjs): the forced cells as the released guide's own fill.sh prints them over the translation a25d9077609ee0e7… (all of the seat's roots in one cut). By AI agents, Wed Nov 11 2026. No macro, syntax, notation, axiom, sorry.
-/
import Derived.Test.YtilehlgnkfjcpaaChecked
import GoSem.Claim
import GoSem.ClaimJoined
import GoSem.ClaimMapViews
import Derived.JoinedTies
import Derived.KernelRfl
namespace Go.Proofs.Ytilehlgnkfjcpaa
/- THE CELL 'sum', in the pinned program and in every row, IS THE sha256 OF THE DUMP (.gsa) THAT YtilehlgnkfjcpaaProg.lean LOADS. Nothing in Lean hashes anything: it is a label: what it is worth is what the hold of that sum in a sandbox is worth. -/
noncomputable def Try.pinned : Pinned := { name := "ytilehlgnkfjcpaa", sum := "a25d9077609ee0e7b33c115aef6a1e97a3f97645f893af024316eddff2c3de22", checked := Try.checked }
namespace Rows
def none {H : Type} : Left H := { results := [], args := [] }

/-- 'farrierlaw05.ScalarReduces': WHATEVER THE INPUT: true; the input reads as it did. -/
def scalarReducesSpec : ChangeSpec := { name := "scalarReduces", fn := fun _ => fun
  | [d] => { results := [.lit (.bool true)], args := [d] }
  | _ => none }
def scalarReducesRow : OpenClaim := { program := "ytilehlgnkfjcpaa", sum := "a25d9077609ee0e7b33c115aef6a1e97a3f97645f893af024316eddff2c3de22", func := "farrier/farrierlaw05.ScalarReduces", spec := "scalarReduces", inPlace := ["math/bits.Sub64", "math/bits.Add64"], apart := false }
def ScalarReducesSaid : Prop := scalarReducesRow.holds Try.pinned (OpenSpec.ofChange scalarReducesSpec)

/-- ITS FALSE NEIGHBOUR: 'it returns false'. Refute it at one input. -/
def scalarReducesWrong : ChangeSpec := { name := "scalarReduces", fn := fun _ => fun
  | [d] => { results := [.lit (.bool false)], args := [d] }
  | _ => none }
def ScalarReducesWrongFalsely : Prop := scalarReducesRow.holds Try.pinned (OpenSpec.ofChange scalarReducesWrong)

/-- 'farrierlaw05.ScalarDoes': WHATEVER THE INPUT: true; the input reads as it did. -/
def scalarDoesSpec : ChangeSpec := { name := "scalarDoes", fn := fun _ => fun
  | [d1, d2] => { results := [.lit (.bool true)], args := [d1, d2] }
  | _ => none }
def scalarDoesRow : OpenClaim := { program := "ytilehlgnkfjcpaa", sum := "a25d9077609ee0e7b33c115aef6a1e97a3f97645f893af024316eddff2c3de22", func := "farrier/farrierlaw05.ScalarDoes", spec := "scalarDoes", inPlace := ["math/bits.Add64", "math/bits.Sub64"], apart := false }
def ScalarDoesSaid : Prop := scalarDoesRow.holds Try.pinned (OpenSpec.ofChange scalarDoesSpec)

/-- ITS FALSE NEIGHBOUR: 'it returns false'. Refute it at one input. -/
def scalarDoesWrong : ChangeSpec := { name := "scalarDoes", fn := fun _ => fun
  | [d1, d2] => { results := [.lit (.bool false)], args := [d1, d2] }
  | _ => none }
def ScalarDoesWrongFalsely : Prop := scalarDoesRow.holds Try.pinned (OpenSpec.ofChange scalarDoesWrong)

/-- 'farrierlaw05.ScalarRules': WHATEVER THE INPUT: true; the input reads as it did. -/
def scalarRulesSpec : ChangeSpec := { name := "scalarRules", fn := fun _ => fun
  | [d1, d2, d3] => { results := [.lit (.bool true)], args := [d1, d2, d3] }
  | _ => none }
def scalarRulesRow : OpenClaim := { program := "ytilehlgnkfjcpaa", sum := "a25d9077609ee0e7b33c115aef6a1e97a3f97645f893af024316eddff2c3de22", func := "farrier/farrierlaw05.ScalarRules", spec := "scalarRules", inPlace := ["math/bits.Sub64", "math/bits.Add64"], apart := false }
def ScalarRulesSaid : Prop := scalarRulesRow.holds Try.pinned (OpenSpec.ofChange scalarRulesSpec)

/-- ITS FALSE NEIGHBOUR: 'it returns false'. Refute it at one input. -/
def scalarRulesWrong : ChangeSpec := { name := "scalarRules", fn := fun _ => fun
  | [d1, d2, d3] => { results := [.lit (.bool false)], args := [d1, d2, d3] }
  | _ => none }
def ScalarRulesWrongFalsely : Prop := scalarRulesRow.holds Try.pinned (OpenSpec.ofChange scalarRulesWrong)

/-- 'farrierlaw05.ScalarBack': WHATEVER THE INPUT: true; the input reads as it did. -/
def scalarBackSpec : ChangeSpec := { name := "scalarBack", fn := fun _ => fun
  | [d] => { results := [.lit (.bool true)], args := [d] }
  | _ => none }
def scalarBackRow : OpenClaim := { program := "ytilehlgnkfjcpaa", sum := "a25d9077609ee0e7b33c115aef6a1e97a3f97645f893af024316eddff2c3de22", func := "farrier/farrierlaw05.ScalarBack", spec := "scalarBack", inPlace := ["math/bits.Sub64", "math/bits.Add64"], apart := false }
def ScalarBackSaid : Prop := scalarBackRow.holds Try.pinned (OpenSpec.ofChange scalarBackSpec)

/-- ITS FALSE NEIGHBOUR: 'it returns false'. Refute it at one input. -/
def scalarBackWrong : ChangeSpec := { name := "scalarBack", fn := fun _ => fun
  | [d] => { results := [.lit (.bool false)], args := [d] }
  | _ => none }
def ScalarBackWrongFalsely : Prop := scalarBackRow.holds Try.pinned (OpenSpec.ofChange scalarBackWrong)

/-- 'farrierlaw05.ScalarWide': WHATEVER THE INPUT: true; the input reads as it did. -/
def scalarWideSpec : ChangeSpec := { name := "scalarWide", fn := fun _ => fun
  | [d1, d2] => { results := [.lit (.bool true)], args := [d1, d2] }
  | _ => none }
def scalarWideRow : OpenClaim := { program := "ytilehlgnkfjcpaa", sum := "a25d9077609ee0e7b33c115aef6a1e97a3f97645f893af024316eddff2c3de22", func := "farrier/farrierlaw05.ScalarWide", spec := "scalarWide", inPlace := ["math/bits.Sub64", "math/bits.Add64"], apart := false }
def ScalarWideSaid : Prop := scalarWideRow.holds Try.pinned (OpenSpec.ofChange scalarWideSpec)

/-- ITS FALSE NEIGHBOUR: 'it returns false'. Refute it at one input. -/
def scalarWideWrong : ChangeSpec := { name := "scalarWide", fn := fun _ => fun
  | [d1, d2] => { results := [.lit (.bool false)], args := [d1, d2] }
  | _ => none }
def ScalarWideWrongFalsely : Prop := scalarWideRow.holds Try.pinned (OpenSpec.ofChange scalarWideWrong)

/-- 'farrierlaw05.ScalarNegs': WHATEVER THE INPUT: true; the input reads as it did. -/
def scalarNegsSpec : ChangeSpec := { name := "scalarNegs", fn := fun _ => fun
  | [d] => { results := [.lit (.bool true)], args := [d] }
  | _ => none }
def scalarNegsRow : OpenClaim := { program := "ytilehlgnkfjcpaa", sum := "a25d9077609ee0e7b33c115aef6a1e97a3f97645f893af024316eddff2c3de22", func := "farrier/farrierlaw05.ScalarNegs", spec := "scalarNegs", inPlace := ["math/bits.Sub64", "math/bits.Add64"], apart := false }
def ScalarNegsSaid : Prop := scalarNegsRow.holds Try.pinned (OpenSpec.ofChange scalarNegsSpec)

/-- ITS FALSE NEIGHBOUR: 'it returns false'. Refute it at one input. -/
def scalarNegsWrong : ChangeSpec := { name := "scalarNegs", fn := fun _ => fun
  | [d] => { results := [.lit (.bool false)], args := [d] }
  | _ => none }
def ScalarNegsWrongFalsely : Prop := scalarNegsRow.holds Try.pinned (OpenSpec.ofChange scalarNegsWrong)

/-- 'farrierlaw05.ScalarSmall': WHATEVER THE INPUT: true; the input reads as it did. -/
def scalarSmallSpec : ChangeSpec := { name := "scalarSmall", fn := fun _ => fun
  | [d1, d2] => { results := [.lit (.bool true)], args := [d1, d2] }
  | _ => none }
def scalarSmallRow : OpenClaim := { program := "ytilehlgnkfjcpaa", sum := "a25d9077609ee0e7b33c115aef6a1e97a3f97645f893af024316eddff2c3de22", func := "farrier/farrierlaw05.ScalarSmall", spec := "scalarSmall", inPlace := ["math/bits.Add64", "math/bits.Sub64"], apart := false }
def ScalarSmallSaid : Prop := scalarSmallRow.holds Try.pinned (OpenSpec.ofChange scalarSmallSpec)

/-- ITS FALSE NEIGHBOUR: 'it returns false'. Refute it at one input. -/
def scalarSmallWrong : ChangeSpec := { name := "scalarSmall", fn := fun _ => fun
  | [d1, d2] => { results := [.lit (.bool false)], args := [d1, d2] }
  | _ => none }
def ScalarSmallWrongFalsely : Prop := scalarSmallRow.holds Try.pinned (OpenSpec.ofChange scalarSmallWrong)

/- THE SECOND FORM. 'bulk': how many values and letters a reading holds, each counted each time it is reached (what is shared counts as often as it is met; a slice's spare places count too). A statement '..UptoSaid' is the law's where the arguments, and the package variables that the reading takes, are together of bulk at most 1048576: NARROWER than '..Said'. Prove '..Said' where nothing that the law and all that it calls make is longer than what came in: it says more and counts as full. Else prove '..UptoSaid'. A law counts once. -/
mutual
def uptoBulk {H : Type} : DataW H → Nat
  | .lit (.string bytes) => bytes.length + 1
  | .lit _ => 1
  | .nil => 1
  | .ptr d => uptoBulk d + 1
  | .slice elems spare => uptoBulkAll elems + uptoBulkAll spare + 1
  | .agg parts => uptoBulkAll parts + 1
  | .iface _ d => uptoBulk d + 1
  | .map entries => uptoBulkEntries entries + 1
  | .held _ => 1
def uptoBulkAll {H : Type} : List (DataW H) → Nat
  | [] => 0
  | d :: r => uptoBulk d + uptoBulkAll r
def uptoBulkEntries {H : Type} : List (Lit × DataW H) → Nat
  | [] => 0
  | x :: r => uptoBulkEntry x + uptoBulkEntries r
def uptoBulkEntry {H : Type} : Lit × DataW H → Nat
  | (.string bytes, d) => bytes.length + uptoBulk d + 1
  | (_, d) => uptoBulk d + 1
 end
def uptoSmall : (H : Type) → List (DataW H) → Bool := fun _ ds => decide (uptoBulkAll ds ≤ 1048576)
def OpenSpec.upto (s : _root_.Go.ChangeSpec) : _root_.Go.OpenSpec := { _root_.Go.OpenSpec.ofChange s with cond := some uptoSmall }

/-- 'farrierlaw05.ScalarReduces', WHERE WHAT IT READS IS OF BULK AT MOST 1048576: true; the input reads as it did. -/
def scalarReducesUptoRow : OpenClaim := { program := "ytilehlgnkfjcpaa", sum := "a25d9077609ee0e7b33c115aef6a1e97a3f97645f893af024316eddff2c3de22", func := "farrier/farrierlaw05.ScalarReduces", spec := "scalarReduces", inPlace := ["math/bits.Sub64", "math/bits.Add64"], apart := false, narrowed := true }
def ScalarReducesUptoSaid : Prop := scalarReducesUptoRow.holds Try.pinned (OpenSpec.upto scalarReducesSpec)

/-- 'farrierlaw05.ScalarDoes', WHERE WHAT IT READS IS OF BULK AT MOST 1048576: true; the input reads as it did. -/
def scalarDoesUptoRow : OpenClaim := { program := "ytilehlgnkfjcpaa", sum := "a25d9077609ee0e7b33c115aef6a1e97a3f97645f893af024316eddff2c3de22", func := "farrier/farrierlaw05.ScalarDoes", spec := "scalarDoes", inPlace := ["math/bits.Add64", "math/bits.Sub64"], apart := false, narrowed := true }
def ScalarDoesUptoSaid : Prop := scalarDoesUptoRow.holds Try.pinned (OpenSpec.upto scalarDoesSpec)

/-- 'farrierlaw05.ScalarRules', WHERE WHAT IT READS IS OF BULK AT MOST 1048576: true; the input reads as it did. -/
def scalarRulesUptoRow : OpenClaim := { program := "ytilehlgnkfjcpaa", sum := "a25d9077609ee0e7b33c115aef6a1e97a3f97645f893af024316eddff2c3de22", func := "farrier/farrierlaw05.ScalarRules", spec := "scalarRules", inPlace := ["math/bits.Sub64", "math/bits.Add64"], apart := false, narrowed := true }
def ScalarRulesUptoSaid : Prop := scalarRulesUptoRow.holds Try.pinned (OpenSpec.upto scalarRulesSpec)

/-- 'farrierlaw05.ScalarBack', WHERE WHAT IT READS IS OF BULK AT MOST 1048576: true; the input reads as it did. -/
def scalarBackUptoRow : OpenClaim := { program := "ytilehlgnkfjcpaa", sum := "a25d9077609ee0e7b33c115aef6a1e97a3f97645f893af024316eddff2c3de22", func := "farrier/farrierlaw05.ScalarBack", spec := "scalarBack", inPlace := ["math/bits.Sub64", "math/bits.Add64"], apart := false, narrowed := true }
def ScalarBackUptoSaid : Prop := scalarBackUptoRow.holds Try.pinned (OpenSpec.upto scalarBackSpec)

/-- 'farrierlaw05.ScalarWide', WHERE WHAT IT READS IS OF BULK AT MOST 1048576: true; the input reads as it did. -/
def scalarWideUptoRow : OpenClaim := { program := "ytilehlgnkfjcpaa", sum := "a25d9077609ee0e7b33c115aef6a1e97a3f97645f893af024316eddff2c3de22", func := "farrier/farrierlaw05.ScalarWide", spec := "scalarWide", inPlace := ["math/bits.Sub64", "math/bits.Add64"], apart := false, narrowed := true }
def ScalarWideUptoSaid : Prop := scalarWideUptoRow.holds Try.pinned (OpenSpec.upto scalarWideSpec)

/-- 'farrierlaw05.ScalarNegs', WHERE WHAT IT READS IS OF BULK AT MOST 1048576: true; the input reads as it did. -/
def scalarNegsUptoRow : OpenClaim := { program := "ytilehlgnkfjcpaa", sum := "a25d9077609ee0e7b33c115aef6a1e97a3f97645f893af024316eddff2c3de22", func := "farrier/farrierlaw05.ScalarNegs", spec := "scalarNegs", inPlace := ["math/bits.Sub64", "math/bits.Add64"], apart := false, narrowed := true }
def ScalarNegsUptoSaid : Prop := scalarNegsUptoRow.holds Try.pinned (OpenSpec.upto scalarNegsSpec)

/-- 'farrierlaw05.ScalarSmall', WHERE WHAT IT READS IS OF BULK AT MOST 1048576: true; the input reads as it did. -/
def scalarSmallUptoRow : OpenClaim := { program := "ytilehlgnkfjcpaa", sum := "a25d9077609ee0e7b33c115aef6a1e97a3f97645f893af024316eddff2c3de22", func := "farrier/farrierlaw05.ScalarSmall", spec := "scalarSmall", inPlace := ["math/bits.Add64", "math/bits.Sub64"], apart := false, narrowed := true }
def ScalarSmallUptoSaid : Prop := scalarSmallUptoRow.holds Try.pinned (OpenSpec.upto scalarSmallSpec)

end Rows
end Go.Proofs.Ytilehlgnkfjcpaa
