/-
  No cell of these rows narrows 'for every input' (looked for: loops, veiled, ifaces, maps, wideKeys, modest, calm, conditions, laid).
  DERIVED. THE GIVEN ROWS OF THIS SEAT. 6 by the template 'for every input the law returns true; each argument reads behind the call as it read before'; 0 by the template 'total and deterministic' (their statements: YthdhgjndchmmbaaTotals.lean).
  GIVEN WITH THE SEED: the statements are not yours to turn. If you find one false, say at which input.
  Laid BY PROGRAM, IN A SANDBOX (cutbox-rows.mjs): the forced cells as the released guide's own fill.sh prints them over the translation 9060ca1ae63fb02b… (all of the seat's roots in one cut). By AI agents, Wed Nov 11 2026. No macro, syntax, notation, axiom, sorry.
-/
import Derived.Test.YthdhgjndchmmbaaChecked
import GoSem.Claim
import GoSem.ClaimJoined
import GoSem.ClaimMapViews
import Derived.JoinedTies
import Derived.KernelRfl
namespace Go.Proofs.Ythdhgjndchmmbaa
/- THE CELL 'sum', in the pinned program and in every row, IS THE sha256 OF THE DUMP (.gsa) THAT YthdhgjndchmmbaaProg.lean LOADS. Nothing in Lean hashes anything: it is a label: what it is worth is what the hold of that sum in a sandbox is worth. -/
noncomputable def Try.pinned : Pinned := { name := "ythdhgjndchmmbaa", sum := "9060ca1ae63fb02b87dde62d0319aa1f5254a1a89cb98fd1b5aee99ed3e8db92", checked := Try.checked }
namespace Rows
def none {H : Type} : Left H := { results := [], args := [] }

/-- 'farrierlaw11.FlashOpens': WHATEVER THE INPUT: true; the input reads as it did. -/
def flashOpensSpec : ChangeSpec := { name := "flashOpens", fn := fun _ => fun
  | [d1, d2] => { results := [.lit (.bool true)], args := [d1, d2] }
  | _ => none }
def flashOpensRow : OpenClaim := { program := "ythdhgjndchmmbaa", sum := "9060ca1ae63fb02b87dde62d0319aa1f5254a1a89cb98fd1b5aee99ed3e8db92", func := "farrier/farrierlaw11.FlashOpens", spec := "flashOpens", inPlace := ["internal/bytealg.MakeNoZero"], apart := false }
def FlashOpensSaid : Prop := flashOpensRow.holds Try.pinned (OpenSpec.ofChange flashOpensSpec)

/-- ITS FALSE NEIGHBOUR: 'it returns false'. Refute it at one input. -/
def flashOpensWrong : ChangeSpec := { name := "flashOpens", fn := fun _ => fun
  | [d1, d2] => { results := [.lit (.bool false)], args := [d1, d2] }
  | _ => none }
def FlashOpensWrongFalsely : Prop := flashOpensRow.holds Try.pinned (OpenSpec.ofChange flashOpensWrong)

/-- 'farrierlaw11.FlashOrder': WHATEVER THE INPUT: true; the input reads as it did. -/
def flashOrderSpec : ChangeSpec := { name := "flashOrder", fn := fun _ => fun
  | [d1, d2, d3] => { results := [.lit (.bool true)], args := [d1, d2, d3] }
  | _ => none }
def flashOrderRow : OpenClaim := { program := "ythdhgjndchmmbaa", sum := "9060ca1ae63fb02b87dde62d0319aa1f5254a1a89cb98fd1b5aee99ed3e8db92", func := "farrier/farrierlaw11.FlashOrder", spec := "flashOrder", inPlace := ["internal/bytealg.MakeNoZero"], apart := false }
def FlashOrderSaid : Prop := flashOrderRow.holds Try.pinned (OpenSpec.ofChange flashOrderSpec)

/-- ITS FALSE NEIGHBOUR: 'it returns false'. Refute it at one input. -/
def flashOrderWrong : ChangeSpec := { name := "flashOrder", fn := fun _ => fun
  | [d1, d2, d3] => { results := [.lit (.bool false)], args := [d1, d2, d3] }
  | _ => none }
def FlashOrderWrongFalsely : Prop := flashOrderRow.holds Try.pinned (OpenSpec.ofChange flashOrderWrong)

/-- 'farrierlaw11.FlashAgain': WHATEVER THE INPUT: true; the input reads as it did. -/
def flashAgainSpec : ChangeSpec := { name := "flashAgain", fn := fun _ => fun
  | [d1, d2, d3] => { results := [.lit (.bool true)], args := [d1, d2, d3] }
  | _ => none }
def flashAgainRow : OpenClaim := { program := "ythdhgjndchmmbaa", sum := "9060ca1ae63fb02b87dde62d0319aa1f5254a1a89cb98fd1b5aee99ed3e8db92", func := "farrier/farrierlaw11.FlashAgain", spec := "flashAgain", inPlace := ["internal/bytealg.MakeNoZero"], apart := false }
def FlashAgainSaid : Prop := flashAgainRow.holds Try.pinned (OpenSpec.ofChange flashAgainSpec)

/-- ITS FALSE NEIGHBOUR: 'it returns false'. Refute it at one input. -/
def flashAgainWrong : ChangeSpec := { name := "flashAgain", fn := fun _ => fun
  | [d1, d2, d3] => { results := [.lit (.bool false)], args := [d1, d2, d3] }
  | _ => none }
def FlashAgainWrongFalsely : Prop := flashAgainRow.holds Try.pinned (OpenSpec.ofChange flashAgainWrong)

/-- 'farrierlaw11.FlashTears': WHATEVER THE INPUT: true; the input reads as it did. -/
def flashTearsSpec : ChangeSpec := { name := "flashTears", fn := fun _ => fun
  | [d] => { results := [.lit (.bool true)], args := [d] }
  | _ => none }
def flashTearsRow : OpenClaim := { program := "ythdhgjndchmmbaa", sum := "9060ca1ae63fb02b87dde62d0319aa1f5254a1a89cb98fd1b5aee99ed3e8db92", func := "farrier/farrierlaw11.FlashTears", spec := "flashTears", inPlace := ["internal/bytealg.MakeNoZero"], apart := false }
def FlashTearsSaid : Prop := flashTearsRow.holds Try.pinned (OpenSpec.ofChange flashTearsSpec)

/-- ITS FALSE NEIGHBOUR: 'it returns false'. Refute it at one input. -/
def flashTearsWrong : ChangeSpec := { name := "flashTears", fn := fun _ => fun
  | [d] => { results := [.lit (.bool false)], args := [d] }
  | _ => none }
def FlashTearsWrongFalsely : Prop := flashTearsRow.holds Try.pinned (OpenSpec.ofChange flashTearsWrong)

/-- 'farrierlaw11.FlashBits': WHATEVER THE INPUT: true; the input reads as it did. -/
def flashBitsSpec : ChangeSpec := { name := "flashBits", fn := fun _ => fun
  | [d] => { results := [.lit (.bool true)], args := [d] }
  | _ => none }
def flashBitsRow : OpenClaim := { program := "ythdhgjndchmmbaa", sum := "9060ca1ae63fb02b87dde62d0319aa1f5254a1a89cb98fd1b5aee99ed3e8db92", func := "farrier/farrierlaw11.FlashBits", spec := "flashBits", inPlace := ["internal/bytealg.MakeNoZero"], apart := false }
def FlashBitsSaid : Prop := flashBitsRow.holds Try.pinned (OpenSpec.ofChange flashBitsSpec)

/-- ITS FALSE NEIGHBOUR: 'it returns false'. Refute it at one input. -/
def flashBitsWrong : ChangeSpec := { name := "flashBits", fn := fun _ => fun
  | [d] => { results := [.lit (.bool false)], args := [d] }
  | _ => none }
def FlashBitsWrongFalsely : Prop := flashBitsRow.holds Try.pinned (OpenSpec.ofChange flashBitsWrong)

/-- 'farrierlaw11.FlashDoes': WHATEVER THE INPUT: true; the input reads as it did. -/
def flashDoesSpec : ChangeSpec := { name := "flashDoes", fn := fun _ => fun
  | [d] => { results := [.lit (.bool true)], args := [d] }
  | _ => none }
def flashDoesRow : OpenClaim := { program := "ythdhgjndchmmbaa", sum := "9060ca1ae63fb02b87dde62d0319aa1f5254a1a89cb98fd1b5aee99ed3e8db92", func := "farrier/farrierlaw11.FlashDoes", spec := "flashDoes", inPlace := ["internal/bytealg.MakeNoZero"], apart := false }
def FlashDoesSaid : Prop := flashDoesRow.holds Try.pinned (OpenSpec.ofChange flashDoesSpec)

/-- ITS FALSE NEIGHBOUR: 'it returns false'. Refute it at one input. -/
def flashDoesWrong : ChangeSpec := { name := "flashDoes", fn := fun _ => fun
  | [d] => { results := [.lit (.bool false)], args := [d] }
  | _ => none }
def FlashDoesWrongFalsely : Prop := flashDoesRow.holds Try.pinned (OpenSpec.ofChange flashDoesWrong)

/- THE SECOND FORM. 'bulk': how many values and letters a reading holds, each counted each time it is reached (what is shared counts as often as it is met; a slice's spare places count too). A statement '..UptoSaid' is the law's where the arguments, and the package variables that the reading takes, are together of bulk at most 1048576: NARROWER than '..Said'. Prove '..Said' where nothing that the law and all that it calls make is longer than what came in: it says more and counts as full. Else prove '..UptoSaid'. A law counts once. -/
mutual
def uptoBulk {H : Type} : DataW H → Nat
  | .lit (.string bytes) => bytes.length + 1
  | .lit _ => 1
  | .nil => 1
  | .ptr d => uptoBulk d + 1
  | .slice elems spare => uptoBulkAll elems + uptoBulkAll spare + 1
  | .agg parts => uptoBulkAll parts + 1
  | .iface _ d => uptoBulk d + 1
  | .map entries => uptoBulkEntries entries + 1
  | .held _ => 1
def uptoBulkAll {H : Type} : List (DataW H) → Nat
  | [] => 0
  | d :: r => uptoBulk d + uptoBulkAll r
def uptoBulkEntries {H : Type} : List (Lit × DataW H) → Nat
  | [] => 0
  | x :: r => uptoBulkEntry x + uptoBulkEntries r
def uptoBulkEntry {H : Type} : Lit × DataW H → Nat
  | (.string bytes, d) => bytes.length + uptoBulk d + 1
  | (_, d) => uptoBulk d + 1
 end
def uptoSmall : (H : Type) → List (DataW H) → Bool := fun _ ds => decide (uptoBulkAll ds ≤ 1048576)
def OpenSpec.upto (s : _root_.Go.ChangeSpec) : _root_.Go.OpenSpec := { _root_.Go.OpenSpec.ofChange s with cond := some uptoSmall }

/-- 'farrierlaw11.FlashOpens', WHERE WHAT IT READS IS OF BULK AT MOST 1048576: true; the input reads as it did. -/
def flashOpensUptoRow : OpenClaim := { program := "ythdhgjndchmmbaa", sum := "9060ca1ae63fb02b87dde62d0319aa1f5254a1a89cb98fd1b5aee99ed3e8db92", func := "farrier/farrierlaw11.FlashOpens", spec := "flashOpens", inPlace := ["internal/bytealg.MakeNoZero"], apart := false, narrowed := true }
def FlashOpensUptoSaid : Prop := flashOpensUptoRow.holds Try.pinned (OpenSpec.upto flashOpensSpec)

/-- 'farrierlaw11.FlashOrder', WHERE WHAT IT READS IS OF BULK AT MOST 1048576: true; the input reads as it did. -/
def flashOrderUptoRow : OpenClaim := { program := "ythdhgjndchmmbaa", sum := "9060ca1ae63fb02b87dde62d0319aa1f5254a1a89cb98fd1b5aee99ed3e8db92", func := "farrier/farrierlaw11.FlashOrder", spec := "flashOrder", inPlace := ["internal/bytealg.MakeNoZero"], apart := false, narrowed := true }
def FlashOrderUptoSaid : Prop := flashOrderUptoRow.holds Try.pinned (OpenSpec.upto flashOrderSpec)

/-- 'farrierlaw11.FlashAgain', WHERE WHAT IT READS IS OF BULK AT MOST 1048576: true; the input reads as it did. -/
def flashAgainUptoRow : OpenClaim := { program := "ythdhgjndchmmbaa", sum := "9060ca1ae63fb02b87dde62d0319aa1f5254a1a89cb98fd1b5aee99ed3e8db92", func := "farrier/farrierlaw11.FlashAgain", spec := "flashAgain", inPlace := ["internal/bytealg.MakeNoZero"], apart := false, narrowed := true }
def FlashAgainUptoSaid : Prop := flashAgainUptoRow.holds Try.pinned (OpenSpec.upto flashAgainSpec)

/-- 'farrierlaw11.FlashTears', WHERE WHAT IT READS IS OF BULK AT MOST 1048576: true; the input reads as it did. -/
def flashTearsUptoRow : OpenClaim := { program := "ythdhgjndchmmbaa", sum := "9060ca1ae63fb02b87dde62d0319aa1f5254a1a89cb98fd1b5aee99ed3e8db92", func := "farrier/farrierlaw11.FlashTears", spec := "flashTears", inPlace := ["internal/bytealg.MakeNoZero"], apart := false, narrowed := true }
def FlashTearsUptoSaid : Prop := flashTearsUptoRow.holds Try.pinned (OpenSpec.upto flashTearsSpec)

/-- 'farrierlaw11.FlashBits', WHERE WHAT IT READS IS OF BULK AT MOST 1048576: true; the input reads as it did. -/
def flashBitsUptoRow : OpenClaim := { program := "ythdhgjndchmmbaa", sum := "9060ca1ae63fb02b87dde62d0319aa1f5254a1a89cb98fd1b5aee99ed3e8db92", func := "farrier/farrierlaw11.FlashBits", spec := "flashBits", inPlace := ["internal/bytealg.MakeNoZero"], apart := false, narrowed := true }
def FlashBitsUptoSaid : Prop := flashBitsUptoRow.holds Try.pinned (OpenSpec.upto flashBitsSpec)

/-- 'farrierlaw11.FlashDoes', WHERE WHAT IT READS IS OF BULK AT MOST 1048576: true; the input reads as it did. -/
def flashDoesUptoRow : OpenClaim := { program := "ythdhgjndchmmbaa", sum := "9060ca1ae63fb02b87dde62d0319aa1f5254a1a89cb98fd1b5aee99ed3e8db92", func := "farrier/farrierlaw11.FlashDoes", spec := "flashDoes", inPlace := ["internal/bytealg.MakeNoZero"], apart := false, narrowed := true }
def FlashDoesUptoSaid : Prop := flashDoesUptoRow.holds Try.pinned (OpenSpec.upto flashDoesSpec)

end Rows
end Go.Proofs.Ythdhgjndchmmbaa
