/-
  No cell of these rows narrows 'for every input' (looked for: loops, veiled, ifaces, maps, wideKeys, modest, calm, conditions, laid).
  DERIVED. THE GIVEN ROWS OF THIS SEAT. 5 by the template 'for every input the law returns true; each argument reads behind the call as it read before'; 0 by the template 'total and deterministic' (their statements: YtaeomiedmjedgaaTotals.lean).
  GIVEN WITH THE SEED: the statements are not yours to turn. If you find one false, say at which input.
  Laid BY PROGRAM, IN A SANDBOX (cutbox-rows.mjs): the forced cells as the released guide's own fill.sh prints them over the translation 4fb9538c53e3b331… (all of the seat's roots in one cut). By AI agents, Wed Nov 11 2026. No macro, syntax, notation, axiom, sorry.
-/
import Derived.Test.YtaeomiedmjedgaaChecked
import GoSem.Claim
import GoSem.ClaimJoined
import GoSem.ClaimMapViews
import Derived.JoinedTies
import Derived.KernelRfl
namespace Go.Proofs.Ytaeomiedmjedgaa
/- THE CELL 'sum', in the pinned program and in every row, IS THE sha256 OF THE DUMP (.gsa) THAT YtaeomiedmjedgaaProg.lean LOADS. Nothing in Lean hashes anything: it is a label: what it is worth is what the hold of that sum in a sandbox is worth. -/
noncomputable def Try.pinned : Pinned := { name := "ytaeomiedmjedgaa", sum := "4fb9538c53e3b3318052f36031a25e66fbb38936fab182d70c2464d49ca9854f", checked := Try.checked }
namespace Rows
def none {H : Type} : Left H := { results := [], args := [] }

/-- 'farrierlaw12.PartPlans': WHATEVER THE INPUT: true; the input reads as it did. -/
def partPlansSpec : ChangeSpec := { name := "partPlans", fn := fun _ => fun
  | [d] => { results := [.lit (.bool true)], args := [d] }
  | _ => none }
def partPlansRow : OpenClaim := { program := "ytaeomiedmjedgaa", sum := "4fb9538c53e3b3318052f36031a25e66fbb38936fab182d70c2464d49ca9854f", func := "farrier/farrierlaw12.PartPlans", spec := "partPlans", inPlace := ["internal/bytealg.MakeNoZero", "internal/bytealg.CountString", "internal/bytealg.IndexByteString", "internal/bytealg.IndexString"], named := ["internal/bytealg.MaxLen"], apart := false }
def PartPlansSaid : Prop := partPlansRow.holds Try.pinned (OpenSpec.ofChange partPlansSpec)

/-- ITS FALSE NEIGHBOUR: 'it returns false'. Refute it at one input. -/
def partPlansWrong : ChangeSpec := { name := "partPlans", fn := fun _ => fun
  | [d] => { results := [.lit (.bool false)], args := [d] }
  | _ => none }
def PartPlansWrongFalsely : Prop := partPlansRow.holds Try.pinned (OpenSpec.ofChange partPlansWrong)

/-- 'farrierlaw12.PartKeeps': WHATEVER THE INPUT: true; the input reads as it did. -/
def partKeepsSpec : ChangeSpec := { name := "partKeeps", fn := fun _ => fun
  | [d1, d2, d3] => { results := [.lit (.bool true)], args := [d1, d2, d3] }
  | _ => none }
def partKeepsRow : OpenClaim := { program := "ytaeomiedmjedgaa", sum := "4fb9538c53e3b3318052f36031a25e66fbb38936fab182d70c2464d49ca9854f", func := "farrier/farrierlaw12.PartKeeps", spec := "partKeeps", inPlace := ["internal/bytealg.MakeNoZero", "internal/bytealg.CountString", "internal/bytealg.IndexByteString", "internal/bytealg.IndexString"], named := ["internal/bytealg.MaxLen"], apart := false }
def PartKeepsSaid : Prop := partKeepsRow.holds Try.pinned (OpenSpec.ofChange partKeepsSpec)

/-- ITS FALSE NEIGHBOUR: 'it returns false'. Refute it at one input. -/
def partKeepsWrong : ChangeSpec := { name := "partKeeps", fn := fun _ => fun
  | [d1, d2, d3] => { results := [.lit (.bool false)], args := [d1, d2, d3] }
  | _ => none }
def PartKeepsWrongFalsely : Prop := partKeepsRow.holds Try.pinned (OpenSpec.ofChange partKeepsWrong)

/-- 'farrierlaw12.PartWhole': WHATEVER THE INPUT: true; the input reads as it did. -/
def partWholeSpec : ChangeSpec := { name := "partWhole", fn := fun _ => fun
  | [d] => { results := [.lit (.bool true)], args := [d] }
  | _ => none }
def partWholeRow : OpenClaim := { program := "ytaeomiedmjedgaa", sum := "4fb9538c53e3b3318052f36031a25e66fbb38936fab182d70c2464d49ca9854f", func := "farrier/farrierlaw12.PartWhole", spec := "partWhole", inPlace := ["internal/bytealg.MakeNoZero", "internal/bytealg.CountString", "internal/bytealg.IndexByteString", "internal/bytealg.IndexString"], named := ["internal/bytealg.MaxLen"], apart := false }
def PartWholeSaid : Prop := partWholeRow.holds Try.pinned (OpenSpec.ofChange partWholeSpec)

/-- ITS FALSE NEIGHBOUR: 'it returns false'. Refute it at one input. -/
def partWholeWrong : ChangeSpec := { name := "partWhole", fn := fun _ => fun
  | [d] => { results := [.lit (.bool false)], args := [d] }
  | _ => none }
def PartWholeWrongFalsely : Prop := partWholeRow.holds Try.pinned (OpenSpec.ofChange partWholeWrong)

/-- 'farrierlaw12.PartApart': WHATEVER THE INPUT: true; the input reads as it did. -/
def partApartSpec : ChangeSpec := { name := "partApart", fn := fun _ => fun
  | [d] => { results := [.lit (.bool true)], args := [d] }
  | _ => none }
def partApartRow : OpenClaim := { program := "ytaeomiedmjedgaa", sum := "4fb9538c53e3b3318052f36031a25e66fbb38936fab182d70c2464d49ca9854f", func := "farrier/farrierlaw12.PartApart", spec := "partApart", inPlace := ["internal/bytealg.MakeNoZero", "internal/bytealg.CountString", "internal/bytealg.IndexByteString", "internal/bytealg.IndexString"], named := ["internal/bytealg.MaxLen"], apart := false }
def PartApartSaid : Prop := partApartRow.holds Try.pinned (OpenSpec.ofChange partApartSpec)

/-- ITS FALSE NEIGHBOUR: 'it returns false'. Refute it at one input. -/
def partApartWrong : ChangeSpec := { name := "partApart", fn := fun _ => fun
  | [d] => { results := [.lit (.bool false)], args := [d] }
  | _ => none }
def PartApartWrongFalsely : Prop := partApartRow.holds Try.pinned (OpenSpec.ofChange partApartWrong)

/-- 'farrierlaw12.PartDoes': WHATEVER THE INPUT: true; the input reads as it did. -/
def partDoesSpec : ChangeSpec := { name := "partDoes", fn := fun _ => fun
  | [d] => { results := [.lit (.bool true)], args := [d] }
  | _ => none }
def partDoesRow : OpenClaim := { program := "ytaeomiedmjedgaa", sum := "4fb9538c53e3b3318052f36031a25e66fbb38936fab182d70c2464d49ca9854f", func := "farrier/farrierlaw12.PartDoes", spec := "partDoes", inPlace := ["internal/bytealg.MakeNoZero", "internal/bytealg.CountString", "internal/bytealg.IndexByteString", "internal/bytealg.IndexString"], named := ["internal/bytealg.MaxLen"], apart := false }
def PartDoesSaid : Prop := partDoesRow.holds Try.pinned (OpenSpec.ofChange partDoesSpec)

/-- ITS FALSE NEIGHBOUR: 'it returns false'. Refute it at one input. -/
def partDoesWrong : ChangeSpec := { name := "partDoes", fn := fun _ => fun
  | [d] => { results := [.lit (.bool false)], args := [d] }
  | _ => none }
def PartDoesWrongFalsely : Prop := partDoesRow.holds Try.pinned (OpenSpec.ofChange partDoesWrong)

/- THE SECOND FORM. 'bulk': how many values and letters a reading holds, each counted each time it is reached (what is shared counts as often as it is met; a slice's spare places count too). A statement '..UptoSaid' is the law's where the arguments, and the package variables that the reading takes, are together of bulk at most 1048576: NARROWER than '..Said'. Prove '..Said' where nothing that the law and all that it calls make is longer than what came in: it says more and counts as full. Else prove '..UptoSaid'. A law counts once. -/
mutual
def uptoBulk {H : Type} : DataW H → Nat
  | .lit (.string bytes) => bytes.length + 1
  | .lit _ => 1
  | .nil => 1
  | .ptr d => uptoBulk d + 1
  | .slice elems spare => uptoBulkAll elems + uptoBulkAll spare + 1
  | .agg parts => uptoBulkAll parts + 1
  | .iface _ d => uptoBulk d + 1
  | .map entries => uptoBulkEntries entries + 1
  | .held _ => 1
def uptoBulkAll {H : Type} : List (DataW H) → Nat
  | [] => 0
  | d :: r => uptoBulk d + uptoBulkAll r
def uptoBulkEntries {H : Type} : List (Lit × DataW H) → Nat
  | [] => 0
  | x :: r => uptoBulkEntry x + uptoBulkEntries r
def uptoBulkEntry {H : Type} : Lit × DataW H → Nat
  | (.string bytes, d) => bytes.length + uptoBulk d + 1
  | (_, d) => uptoBulk d + 1
 end
def uptoSmall : (H : Type) → List (DataW H) → Bool := fun _ ds => decide (uptoBulkAll ds ≤ 1048576)
def OpenSpec.upto (s : _root_.Go.ChangeSpec) : _root_.Go.OpenSpec := { _root_.Go.OpenSpec.ofChange s with cond := some uptoSmall }

/-- 'farrierlaw12.PartPlans', WHERE WHAT IT READS IS OF BULK AT MOST 1048576: true; the input reads as it did. -/
def partPlansUptoRow : OpenClaim := { program := "ytaeomiedmjedgaa", sum := "4fb9538c53e3b3318052f36031a25e66fbb38936fab182d70c2464d49ca9854f", func := "farrier/farrierlaw12.PartPlans", spec := "partPlans", inPlace := ["internal/bytealg.MakeNoZero", "internal/bytealg.CountString", "internal/bytealg.IndexByteString", "internal/bytealg.IndexString"], named := ["internal/bytealg.MaxLen"], apart := false, narrowed := true }
def PartPlansUptoSaid : Prop := partPlansUptoRow.holds Try.pinned (OpenSpec.upto partPlansSpec)

/-- 'farrierlaw12.PartKeeps', WHERE WHAT IT READS IS OF BULK AT MOST 1048576: true; the input reads as it did. -/
def partKeepsUptoRow : OpenClaim := { program := "ytaeomiedmjedgaa", sum := "4fb9538c53e3b3318052f36031a25e66fbb38936fab182d70c2464d49ca9854f", func := "farrier/farrierlaw12.PartKeeps", spec := "partKeeps", inPlace := ["internal/bytealg.MakeNoZero", "internal/bytealg.CountString", "internal/bytealg.IndexByteString", "internal/bytealg.IndexString"], named := ["internal/bytealg.MaxLen"], apart := false, narrowed := true }
def PartKeepsUptoSaid : Prop := partKeepsUptoRow.holds Try.pinned (OpenSpec.upto partKeepsSpec)

/-- 'farrierlaw12.PartWhole', WHERE WHAT IT READS IS OF BULK AT MOST 1048576: true; the input reads as it did. -/
def partWholeUptoRow : OpenClaim := { program := "ytaeomiedmjedgaa", sum := "4fb9538c53e3b3318052f36031a25e66fbb38936fab182d70c2464d49ca9854f", func := "farrier/farrierlaw12.PartWhole", spec := "partWhole", inPlace := ["internal/bytealg.MakeNoZero", "internal/bytealg.CountString", "internal/bytealg.IndexByteString", "internal/bytealg.IndexString"], named := ["internal/bytealg.MaxLen"], apart := false, narrowed := true }
def PartWholeUptoSaid : Prop := partWholeUptoRow.holds Try.pinned (OpenSpec.upto partWholeSpec)

/-- 'farrierlaw12.PartApart', WHERE WHAT IT READS IS OF BULK AT MOST 1048576: true; the input reads as it did. -/
def partApartUptoRow : OpenClaim := { program := "ytaeomiedmjedgaa", sum := "4fb9538c53e3b3318052f36031a25e66fbb38936fab182d70c2464d49ca9854f", func := "farrier/farrierlaw12.PartApart", spec := "partApart", inPlace := ["internal/bytealg.MakeNoZero", "internal/bytealg.CountString", "internal/bytealg.IndexByteString", "internal/bytealg.IndexString"], named := ["internal/bytealg.MaxLen"], apart := false, narrowed := true }
def PartApartUptoSaid : Prop := partApartUptoRow.holds Try.pinned (OpenSpec.upto partApartSpec)

/-- 'farrierlaw12.PartDoes', WHERE WHAT IT READS IS OF BULK AT MOST 1048576: true; the input reads as it did. -/
def partDoesUptoRow : OpenClaim := { program := "ytaeomiedmjedgaa", sum := "4fb9538c53e3b3318052f36031a25e66fbb38936fab182d70c2464d49ca9854f", func := "farrier/farrierlaw12.PartDoes", spec := "partDoes", inPlace := ["internal/bytealg.MakeNoZero", "internal/bytealg.CountString", "internal/bytealg.IndexByteString", "internal/bytealg.IndexString"], named := ["internal/bytealg.MaxLen"], apart := false, narrowed := true }
def PartDoesUptoSaid : Prop := partDoesUptoRow.holds Try.pinned (OpenSpec.upto partDoesSpec)

end Rows
end Go.Proofs.Ytaeomiedmjedgaa
