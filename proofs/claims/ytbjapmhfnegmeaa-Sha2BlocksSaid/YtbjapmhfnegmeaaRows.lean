/-
  No cell of these rows narrows 'for every input' (looked for: loops, veiled, ifaces, maps, wideKeys, modest, calm, conditions, laid).
  DERIVED. THE GIVEN ROWS OF THIS SEAT. 4 by the template 'for every input the law returns true; each argument reads behind the call as it read before'; 0 by the template 'total and deterministic' (their statements: YtbjapmhfnegmeaaTotals.lean).
  GIVEN WITH THE SEED: the statements are not yours to turn. If you find one false, say at which input.
  Laid BY PROGRAM, IN A SANDBOX (cutbox-rows.mjs): the forced cells as the released guide's own fill.sh prints them over the translation 33b11d66e9435675… (all of the seat's roots in one cut). By AI agents, Wed Nov 11 2026. No macro, syntax, notation, axiom, sorry.
-/
import Derived.Test.YtbjapmhfnegmeaaChecked
import GoSem.Claim
import GoSem.ClaimJoined
import GoSem.ClaimMapViews
import Derived.JoinedTies
import Derived.KernelRfl
namespace Go.Proofs.Ytbjapmhfnegmeaa
/- THE CELL 'sum', in the pinned program and in every row, IS THE sha256 OF THE DUMP (.gsa) THAT YtbjapmhfnegmeaaProg.lean LOADS. Nothing in Lean hashes anything: it is a label: what it is worth is what the hold of that sum in a sandbox is worth. -/
noncomputable def Try.pinned : Pinned := { name := "ytbjapmhfnegmeaa", sum := "33b11d66e943567597d313a571118325ea859c6c1bc97c4b166eac991db5ed5b", checked := Try.checked }
namespace Rows
def none {H : Type} : Left H := { results := [], args := [] }

/-- 'farrierlaw03.Sha2Ones': WHATEVER THE INPUT: true; the input reads as it did. -/
def sha2OnesSpec : ChangeSpec := { name := "sha2Ones", fn := fun _ => fun
  | [d1, d2] => { results := [.lit (.bool true)], args := [d1, d2] }
  | _ => none }
def sha2OnesRow : OpenClaim := { program := "ytbjapmhfnegmeaa", sum := "33b11d66e943567597d313a571118325ea859c6c1bc97c4b166eac991db5ed5b", func := "farrier/farrierlaw03.Sha2Ones", spec := "sha2Ones", apart := false }
def Sha2OnesSaid : Prop := sha2OnesRow.holds Try.pinned (OpenSpec.ofChange sha2OnesSpec)

/-- ITS FALSE NEIGHBOUR: 'it returns false'. Refute it at one input. -/
def sha2OnesWrong : ChangeSpec := { name := "sha2Ones", fn := fun _ => fun
  | [d1, d2] => { results := [.lit (.bool false)], args := [d1, d2] }
  | _ => none }
def Sha2OnesWrongFalsely : Prop := sha2OnesRow.holds Try.pinned (OpenSpec.ofChange sha2OnesWrong)

/-- 'farrierlaw03.Sha2Pieces': WHATEVER THE INPUT: true; the input reads as it did. -/
def sha2PiecesSpec : ChangeSpec := { name := "sha2Pieces", fn := fun _ => fun
  | [d1, d2] => { results := [.lit (.bool true)], args := [d1, d2] }
  | _ => none }
def sha2PiecesRow : OpenClaim := { program := "ytbjapmhfnegmeaa", sum := "33b11d66e943567597d313a571118325ea859c6c1bc97c4b166eac991db5ed5b", func := "farrier/farrierlaw03.Sha2Pieces", spec := "sha2Pieces", apart := false }
def Sha2PiecesSaid : Prop := sha2PiecesRow.holds Try.pinned (OpenSpec.ofChange sha2PiecesSpec)

/-- ITS FALSE NEIGHBOUR: 'it returns false'. Refute it at one input. -/
def sha2PiecesWrong : ChangeSpec := { name := "sha2Pieces", fn := fun _ => fun
  | [d1, d2] => { results := [.lit (.bool false)], args := [d1, d2] }
  | _ => none }
def Sha2PiecesWrongFalsely : Prop := sha2PiecesRow.holds Try.pinned (OpenSpec.ofChange sha2PiecesWrong)

/-- 'farrierlaw03.Sha2Blocks': WHATEVER THE INPUT: true; the input reads as it did. -/
def sha2BlocksSpec : ChangeSpec := { name := "sha2Blocks", fn := fun _ => fun
  | [d1, d2, d3] => { results := [.lit (.bool true)], args := [d1, d2, d3] }
  | _ => none }
def sha2BlocksRow : OpenClaim := { program := "ytbjapmhfnegmeaa", sum := "33b11d66e943567597d313a571118325ea859c6c1bc97c4b166eac991db5ed5b", func := "farrier/farrierlaw03.Sha2Blocks", spec := "sha2Blocks", apart := false }
def Sha2BlocksSaid : Prop := sha2BlocksRow.holds Try.pinned (OpenSpec.ofChange sha2BlocksSpec)

/-- ITS FALSE NEIGHBOUR: 'it returns false'. Refute it at one input. -/
def sha2BlocksWrong : ChangeSpec := { name := "sha2Blocks", fn := fun _ => fun
  | [d1, d2, d3] => { results := [.lit (.bool false)], args := [d1, d2, d3] }
  | _ => none }
def Sha2BlocksWrongFalsely : Prop := sha2BlocksRow.holds Try.pinned (OpenSpec.ofChange sha2BlocksWrong)

/-- 'farrierlaw03.Sha2Sizes': WHATEVER THE INPUT: true; the input reads as it did. -/
def sha2SizesSpec : ChangeSpec := { name := "sha2Sizes", fn := fun _ => fun
  | [d1, d2, d3] => { results := [.lit (.bool true)], args := [d1, d2, d3] }
  | _ => none }
def sha2SizesRow : OpenClaim := { program := "ytbjapmhfnegmeaa", sum := "33b11d66e943567597d313a571118325ea859c6c1bc97c4b166eac991db5ed5b", func := "farrier/farrierlaw03.Sha2Sizes", spec := "sha2Sizes", apart := false }
def Sha2SizesSaid : Prop := sha2SizesRow.holds Try.pinned (OpenSpec.ofChange sha2SizesSpec)

/-- ITS FALSE NEIGHBOUR: 'it returns false'. Refute it at one input. -/
def sha2SizesWrong : ChangeSpec := { name := "sha2Sizes", fn := fun _ => fun
  | [d1, d2, d3] => { results := [.lit (.bool false)], args := [d1, d2, d3] }
  | _ => none }
def Sha2SizesWrongFalsely : Prop := sha2SizesRow.holds Try.pinned (OpenSpec.ofChange sha2SizesWrong)

/- THE SECOND FORM. 'bulk': how many values and letters a reading holds, each counted each time it is reached (what is shared counts as often as it is met; a slice's spare places count too). A statement '..UptoSaid' is the law's where the arguments, and the package variables that the reading takes, are together of bulk at most 1048576: NARROWER than '..Said'. Prove '..Said' where nothing that the law and all that it calls make is longer than what came in: it says more and counts as full. Else prove '..UptoSaid'. A law counts once. -/
mutual
def uptoBulk {H : Type} : DataW H → Nat
  | .lit (.string bytes) => bytes.length + 1
  | .lit _ => 1
  | .nil => 1
  | .ptr d => uptoBulk d + 1
  | .slice elems spare => uptoBulkAll elems + uptoBulkAll spare + 1
  | .agg parts => uptoBulkAll parts + 1
  | .iface _ d => uptoBulk d + 1
  | .map entries => uptoBulkEntries entries + 1
  | .held _ => 1
def uptoBulkAll {H : Type} : List (DataW H) → Nat
  | [] => 0
  | d :: r => uptoBulk d + uptoBulkAll r
def uptoBulkEntries {H : Type} : List (Lit × DataW H) → Nat
  | [] => 0
  | x :: r => uptoBulkEntry x + uptoBulkEntries r
def uptoBulkEntry {H : Type} : Lit × DataW H → Nat
  | (.string bytes, d) => bytes.length + uptoBulk d + 1
  | (_, d) => uptoBulk d + 1
 end
def uptoSmall : (H : Type) → List (DataW H) → Bool := fun _ ds => decide (uptoBulkAll ds ≤ 1048576)
def OpenSpec.upto (s : _root_.Go.ChangeSpec) : _root_.Go.OpenSpec := { _root_.Go.OpenSpec.ofChange s with cond := some uptoSmall }

/-- 'farrierlaw03.Sha2Ones', WHERE WHAT IT READS IS OF BULK AT MOST 1048576: true; the input reads as it did. -/
def sha2OnesUptoRow : OpenClaim := { program := "ytbjapmhfnegmeaa", sum := "33b11d66e943567597d313a571118325ea859c6c1bc97c4b166eac991db5ed5b", func := "farrier/farrierlaw03.Sha2Ones", spec := "sha2Ones", apart := false, narrowed := true }
def Sha2OnesUptoSaid : Prop := sha2OnesUptoRow.holds Try.pinned (OpenSpec.upto sha2OnesSpec)

/-- 'farrierlaw03.Sha2Pieces', WHERE WHAT IT READS IS OF BULK AT MOST 1048576: true; the input reads as it did. -/
def sha2PiecesUptoRow : OpenClaim := { program := "ytbjapmhfnegmeaa", sum := "33b11d66e943567597d313a571118325ea859c6c1bc97c4b166eac991db5ed5b", func := "farrier/farrierlaw03.Sha2Pieces", spec := "sha2Pieces", apart := false, narrowed := true }
def Sha2PiecesUptoSaid : Prop := sha2PiecesUptoRow.holds Try.pinned (OpenSpec.upto sha2PiecesSpec)

/-- 'farrierlaw03.Sha2Blocks', WHERE WHAT IT READS IS OF BULK AT MOST 1048576: true; the input reads as it did. -/
def sha2BlocksUptoRow : OpenClaim := { program := "ytbjapmhfnegmeaa", sum := "33b11d66e943567597d313a571118325ea859c6c1bc97c4b166eac991db5ed5b", func := "farrier/farrierlaw03.Sha2Blocks", spec := "sha2Blocks", apart := false, narrowed := true }
def Sha2BlocksUptoSaid : Prop := sha2BlocksUptoRow.holds Try.pinned (OpenSpec.upto sha2BlocksSpec)

/-- 'farrierlaw03.Sha2Sizes', WHERE WHAT IT READS IS OF BULK AT MOST 1048576: true; the input reads as it did. -/
def sha2SizesUptoRow : OpenClaim := { program := "ytbjapmhfnegmeaa", sum := "33b11d66e943567597d313a571118325ea859c6c1bc97c4b166eac991db5ed5b", func := "farrier/farrierlaw03.Sha2Sizes", spec := "sha2Sizes", apart := false, narrowed := true }
def Sha2SizesUptoSaid : Prop := sha2SizesUptoRow.holds Try.pinned (OpenSpec.upto sha2SizesSpec)

end Rows
end Go.Proofs.Ytbjapmhfnegmeaa
