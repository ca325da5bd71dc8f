/-
  No cell of these rows narrows 'for every input' (looked for: loops, veiled, ifaces, maps, wideKeys, modest, calm, conditions, laid).
  DERIVED. THE GIVEN ROWS OF THIS SEAT. 4 by the template 'for every input the law returns true; each argument reads behind the call as it read before'; 0 by the template 'total and deterministic' (their statements: YtopiopomioglfaaTotals.lean).
  GIVEN WITH THE SEED: the statements are not yours to turn. If you find one false, say at which input.
  Laid BY PROGRAM, IN A SANDBOX (cutbox-rows.mjs): the forced cells as the released guide's own fill.sh prints them over the translation 42869af149e561f5… (all of the seat's roots in one cut). By AI agents, Wed Nov 11 2026. No macro, syntax, notation, axiom, sorry.
-/
import Derived.Test.YtopiopomioglfaaChecked
import GoSem.Claim
import GoSem.ClaimJoined
import GoSem.ClaimMapViews
import Derived.JoinedTies
import Derived.KernelRfl
namespace Go.Proofs.Ytopiopomioglfaa
/- THE CELL 'sum', in the pinned program and in every row, IS THE sha256 OF THE DUMP (.gsa) THAT YtopiopomioglfaaProg.lean LOADS. Nothing in Lean hashes anything: it is a label: what it is worth is what the hold of that sum in a sandbox is worth. -/
noncomputable def Try.pinned : Pinned := { name := "ytopiopomioglfaa", sum := "42869af149e561f503e9f4f087026e65a67fd78defb7af954a5b97c7c2e13e47", checked := Try.checked }
namespace Rows
def none {H : Type} : Left H := { results := [], args := [] }

/-- 'farrierlaw24.SlotCuts': WHATEVER THE INPUT: true; the input reads as it did. -/
def slotCutsSpec : ChangeSpec := { name := "slotCuts", fn := fun _ => fun
  | [d1, d2] => { results := [.lit (.bool true)], args := [d1, d2] }
  | _ => none }
def slotCutsRow : OpenClaim := { program := "ytopiopomioglfaa", sum := "42869af149e561f503e9f4f087026e65a67fd78defb7af954a5b97c7c2e13e47", func := "farrier/farrierlaw24.SlotCuts", spec := "slotCuts", inPlace := ["internal/bytealg.CountString", "internal/bytealg.IndexByteString", "internal/bytealg.IndexString"], named := ["internal/bytealg.MaxLen"], apart := false }
def SlotCutsSaid : Prop := slotCutsRow.holds Try.pinned (OpenSpec.ofChange slotCutsSpec)

/-- ITS FALSE NEIGHBOUR: 'it returns false'. Refute it at one input. -/
def slotCutsWrong : ChangeSpec := { name := "slotCuts", fn := fun _ => fun
  | [d1, d2] => { results := [.lit (.bool false)], args := [d1, d2] }
  | _ => none }
def SlotCutsWrongFalsely : Prop := slotCutsRow.holds Try.pinned (OpenSpec.ofChange slotCutsWrong)

/-- 'farrierlaw24.SlotOutside': WHATEVER THE INPUT: true; the input reads as it did. -/
def slotOutsideSpec : ChangeSpec := { name := "slotOutside", fn := fun _ => fun
  | [d1, d2] => { results := [.lit (.bool true)], args := [d1, d2] }
  | _ => none }
def slotOutsideRow : OpenClaim := { program := "ytopiopomioglfaa", sum := "42869af149e561f503e9f4f087026e65a67fd78defb7af954a5b97c7c2e13e47", func := "farrier/farrierlaw24.SlotOutside", spec := "slotOutside", inPlace := ["internal/bytealg.CountString", "internal/bytealg.IndexByteString", "internal/bytealg.IndexString"], named := ["internal/bytealg.MaxLen"], apart := false }
def SlotOutsideSaid : Prop := slotOutsideRow.holds Try.pinned (OpenSpec.ofChange slotOutsideSpec)

/-- ITS FALSE NEIGHBOUR: 'it returns false'. Refute it at one input. -/
def slotOutsideWrong : ChangeSpec := { name := "slotOutside", fn := fun _ => fun
  | [d1, d2] => { results := [.lit (.bool false)], args := [d1, d2] }
  | _ => none }
def SlotOutsideWrongFalsely : Prop := slotOutsideRow.holds Try.pinned (OpenSpec.ofChange slotOutsideWrong)

/-- 'farrierlaw24.SlotBack': WHATEVER THE INPUT: true; the input reads as it did. -/
def slotBackSpec : ChangeSpec := { name := "slotBack", fn := fun _ => fun
  | [d1, d2] => { results := [.lit (.bool true)], args := [d1, d2] }
  | _ => none }
def slotBackRow : OpenClaim := { program := "ytopiopomioglfaa", sum := "42869af149e561f503e9f4f087026e65a67fd78defb7af954a5b97c7c2e13e47", func := "farrier/farrierlaw24.SlotBack", spec := "slotBack", inPlace := ["internal/bytealg.CountString", "internal/bytealg.IndexByteString", "internal/bytealg.IndexString"], named := ["internal/bytealg.MaxLen"], apart := false }
def SlotBackSaid : Prop := slotBackRow.holds Try.pinned (OpenSpec.ofChange slotBackSpec)

/-- ITS FALSE NEIGHBOUR: 'it returns false'. Refute it at one input. -/
def slotBackWrong : ChangeSpec := { name := "slotBack", fn := fun _ => fun
  | [d1, d2] => { results := [.lit (.bool false)], args := [d1, d2] }
  | _ => none }
def SlotBackWrongFalsely : Prop := slotBackRow.holds Try.pinned (OpenSpec.ofChange slotBackWrong)

/-- 'farrierlaw24.SlotDoes': WHATEVER THE INPUT: true; the input reads as it did. -/
def slotDoesSpec : ChangeSpec := { name := "slotDoes", fn := fun _ => fun
  | [d] => { results := [.lit (.bool true)], args := [d] }
  | _ => none }
def slotDoesRow : OpenClaim := { program := "ytopiopomioglfaa", sum := "42869af149e561f503e9f4f087026e65a67fd78defb7af954a5b97c7c2e13e47", func := "farrier/farrierlaw24.SlotDoes", spec := "slotDoes", inPlace := ["internal/bytealg.CountString", "internal/bytealg.IndexByteString", "internal/bytealg.IndexString"], named := ["internal/bytealg.MaxLen"], apart := false }
def SlotDoesSaid : Prop := slotDoesRow.holds Try.pinned (OpenSpec.ofChange slotDoesSpec)

/-- ITS FALSE NEIGHBOUR: 'it returns false'. Refute it at one input. -/
def slotDoesWrong : ChangeSpec := { name := "slotDoes", fn := fun _ => fun
  | [d] => { results := [.lit (.bool false)], args := [d] }
  | _ => none }
def SlotDoesWrongFalsely : Prop := slotDoesRow.holds Try.pinned (OpenSpec.ofChange slotDoesWrong)

/- THE SECOND FORM. 'bulk': how many values and letters a reading holds, each counted each time it is reached (what is shared counts as often as it is met; a slice's spare places count too). A statement '..UptoSaid' is the law's where the arguments, and the package variables that the reading takes, are together of bulk at most 1048576: NARROWER than '..Said'. Prove '..Said' where nothing that the law and all that it calls make is longer than what came in: it says more and counts as full. Else prove '..UptoSaid'. A law counts once. -/
mutual
def uptoBulk {H : Type} : DataW H → Nat
  | .lit (.string bytes) => bytes.length + 1
  | .lit _ => 1
  | .nil => 1
  | .ptr d => uptoBulk d + 1
  | .slice elems spare => uptoBulkAll elems + uptoBulkAll spare + 1
  | .agg parts => uptoBulkAll parts + 1
  | .iface _ d => uptoBulk d + 1
  | .map entries => uptoBulkEntries entries + 1
  | .held _ => 1
def uptoBulkAll {H : Type} : List (DataW H) → Nat
  | [] => 0
  | d :: r => uptoBulk d + uptoBulkAll r
def uptoBulkEntries {H : Type} : List (Lit × DataW H) → Nat
  | [] => 0
  | x :: r => uptoBulkEntry x + uptoBulkEntries r
def uptoBulkEntry {H : Type} : Lit × DataW H → Nat
  | (.string bytes, d) => bytes.length + uptoBulk d + 1
  | (_, d) => uptoBulk d + 1
 end
def uptoSmall : (H : Type) → List (DataW H) → Bool := fun _ ds => decide (uptoBulkAll ds ≤ 1048576)
def OpenSpec.upto (s : _root_.Go.ChangeSpec) : _root_.Go.OpenSpec := { _root_.Go.OpenSpec.ofChange s with cond := some uptoSmall }

/-- 'farrierlaw24.SlotCuts', WHERE WHAT IT READS IS OF BULK AT MOST 1048576: true; the input reads as it did. -/
def slotCutsUptoRow : OpenClaim := { program := "ytopiopomioglfaa", sum := "42869af149e561f503e9f4f087026e65a67fd78defb7af954a5b97c7c2e13e47", func := "farrier/farrierlaw24.SlotCuts", spec := "slotCuts", inPlace := ["internal/bytealg.CountString", "internal/bytealg.IndexByteString", "internal/bytealg.IndexString"], named := ["internal/bytealg.MaxLen"], apart := false, narrowed := true }
def SlotCutsUptoSaid : Prop := slotCutsUptoRow.holds Try.pinned (OpenSpec.upto slotCutsSpec)

/-- 'farrierlaw24.SlotOutside', WHERE WHAT IT READS IS OF BULK AT MOST 1048576: true; the input reads as it did. -/
def slotOutsideUptoRow : OpenClaim := { program := "ytopiopomioglfaa", sum := "42869af149e561f503e9f4f087026e65a67fd78defb7af954a5b97c7c2e13e47", func := "farrier/farrierlaw24.SlotOutside", spec := "slotOutside", inPlace := ["internal/bytealg.CountString", "internal/bytealg.IndexByteString", "internal/bytealg.IndexString"], named := ["internal/bytealg.MaxLen"], apart := false, narrowed := true }
def SlotOutsideUptoSaid : Prop := slotOutsideUptoRow.holds Try.pinned (OpenSpec.upto slotOutsideSpec)

/-- 'farrierlaw24.SlotBack', WHERE WHAT IT READS IS OF BULK AT MOST 1048576: true; the input reads as it did. -/
def slotBackUptoRow : OpenClaim := { program := "ytopiopomioglfaa", sum := "42869af149e561f503e9f4f087026e65a67fd78defb7af954a5b97c7c2e13e47", func := "farrier/farrierlaw24.SlotBack", spec := "slotBack", inPlace := ["internal/bytealg.CountString", "internal/bytealg.IndexByteString", "internal/bytealg.IndexString"], named := ["internal/bytealg.MaxLen"], apart := false, narrowed := true }
def SlotBackUptoSaid : Prop := slotBackUptoRow.holds Try.pinned (OpenSpec.upto slotBackSpec)

/-- 'farrierlaw24.SlotDoes', WHERE WHAT IT READS IS OF BULK AT MOST 1048576: true; the input reads as it did. -/
def slotDoesUptoRow : OpenClaim := { program := "ytopiopomioglfaa", sum := "42869af149e561f503e9f4f087026e65a67fd78defb7af954a5b97c7c2e13e47", func := "farrier/farrierlaw24.SlotDoes", spec := "slotDoes", inPlace := ["internal/bytealg.CountString", "internal/bytealg.IndexByteString", "internal/bytealg.IndexString"], named := ["internal/bytealg.MaxLen"], apart := false, narrowed := true }
def SlotDoesUptoSaid : Prop := slotDoesUptoRow.holds Try.pinned (OpenSpec.upto slotDoesSpec)

end Rows
end Go.Proofs.Ytopiopomioglfaa
