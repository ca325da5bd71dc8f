/-
  No cell of these rows narrows 'for every input' (looked for: loops, veiled, ifaces, maps, wideKeys, modest, calm, conditions, laid).
  DERIVED. THE GIVEN ROWS OF THIS SEAT. 2 by the template 'for every input the law returns true; each argument reads behind the call as it read before'; 0 by the template 'total and deterministic' (their statements: YtjednaendedpdaaTotals.lean).
  GIVEN WITH THE SEED: the statements are not yours to turn. If you find one false, say at which input.
  Laid BY PROGRAM, IN A SANDBOX (cutbox-rows.mjs): the forced cells as the released guide's own fill.sh prints them over the translation 1dffb8a26bb138cd… (all of the seat's roots in one cut). By AI agents, Wed Nov 11 2026. No macro, syntax, notation, axiom, sorry.
-/
import Derived.Test.YtjednaendedpdaaChecked
import GoSem.Claim
import GoSem.ClaimJoined
import GoSem.ClaimMapViews
import Derived.JoinedTies
import Derived.KernelRfl
namespace Go.Proofs.Ytjednaendedpdaa
/- THE CELL 'sum', in the pinned program and in every row, IS THE sha256 OF THE DUMP (.gsa) THAT YtjednaendedpdaaProg.lean LOADS. Nothing in Lean hashes anything: it is a label: what it is worth is what the hold of that sum in a sandbox is worth. -/
noncomputable def Try.pinned : Pinned := { name := "ytjednaendedpdaa", sum := "1dffb8a26bb138cdd4f76e3706595a24501f38472c4eb022508ad94976b72879", checked := Try.checked }
namespace Rows
def none {H : Type} : Left H := { results := [], args := [] }

/-- 'farrierlaw14.LogsRoom': WHATEVER THE INPUT: true; the input reads as it did. -/
def logsRoomSpec : ChangeSpec := { name := "logsRoom", fn := fun _ => fun
  | [d1, d2, d3] => { results := [.lit (.bool true)], args := [d1, d2, d3] }
  | _ => none }
def logsRoomRow : OpenClaim := { program := "ytjednaendedpdaa", sum := "1dffb8a26bb138cdd4f76e3706595a24501f38472c4eb022508ad94976b72879", func := "farrier/farrierlaw14.LogsRoom", spec := "logsRoom", inPlace := ["internal/bytealg.MakeNoZero", "internal/bytealg.CountString", "internal/bytealg.IndexByteString", "internal/bytealg.IndexString"], unfollowed := true, recurses := true, named := ["internal/bytealg.MaxLen"], apart := false }
def LogsRoomSaid : Prop := logsRoomRow.holds Try.pinned (OpenSpec.ofChange logsRoomSpec)

/-- ITS FALSE NEIGHBOUR: 'it returns false'. Refute it at one input. -/
def logsRoomWrong : ChangeSpec := { name := "logsRoom", fn := fun _ => fun
  | [d1, d2, d3] => { results := [.lit (.bool false)], args := [d1, d2, d3] }
  | _ => none }
def LogsRoomWrongFalsely : Prop := logsRoomRow.holds Try.pinned (OpenSpec.ofChange logsRoomWrong)

/-- 'farrierlaw14.LogsNumbers': WHATEVER THE INPUT: true; the input reads as it did. -/
def logsNumbersSpec : ChangeSpec := { name := "logsNumbers", fn := fun _ => fun
  | [d1, d2] => { results := [.lit (.bool true)], args := [d1, d2] }
  | _ => none }
def logsNumbersRow : OpenClaim := { program := "ytjednaendedpdaa", sum := "1dffb8a26bb138cdd4f76e3706595a24501f38472c4eb022508ad94976b72879", func := "farrier/farrierlaw14.LogsNumbers", spec := "logsNumbers", inPlace := ["internal/bytealg.MakeNoZero", "internal/bytealg.CountString", "internal/bytealg.IndexByteString", "internal/bytealg.IndexString"], unfollowed := true, recurses := true, named := ["internal/bytealg.MaxLen"], apart := false }
def LogsNumbersSaid : Prop := logsNumbersRow.holds Try.pinned (OpenSpec.ofChange logsNumbersSpec)

/-- ITS FALSE NEIGHBOUR: 'it returns false'. Refute it at one input. -/
def logsNumbersWrong : ChangeSpec := { name := "logsNumbers", fn := fun _ => fun
  | [d1, d2] => { results := [.lit (.bool false)], args := [d1, d2] }
  | _ => none }
def LogsNumbersWrongFalsely : Prop := logsNumbersRow.holds Try.pinned (OpenSpec.ofChange logsNumbersWrong)

/- THE SECOND FORM. 'bulk': how many values and letters a reading holds, each counted each time it is reached (what is shared counts as often as it is met; a slice's spare places count too). A statement '..UptoSaid' is the law's where the arguments, and the package variables that the reading takes, are together of bulk at most 1048576: NARROWER than '..Said'. Prove '..Said' where nothing that the law and all that it calls make is longer than what came in: it says more and counts as full. Else prove '..UptoSaid'. A law counts once. -/
mutual
def uptoBulk {H : Type} : DataW H → Nat
  | .lit (.string bytes) => bytes.length + 1
  | .lit _ => 1
  | .nil => 1
  | .ptr d => uptoBulk d + 1
  | .slice elems spare => uptoBulkAll elems + uptoBulkAll spare + 1
  | .agg parts => uptoBulkAll parts + 1
  | .iface _ d => uptoBulk d + 1
  | .map entries => uptoBulkEntries entries + 1
  | .held _ => 1
def uptoBulkAll {H : Type} : List (DataW H) → Nat
  | [] => 0
  | d :: r => uptoBulk d + uptoBulkAll r
def uptoBulkEntries {H : Type} : List (Lit × DataW H) → Nat
  | [] => 0
  | x :: r => uptoBulkEntry x + uptoBulkEntries r
def uptoBulkEntry {H : Type} : Lit × DataW H → Nat
  | (.string bytes, d) => bytes.length + uptoBulk d + 1
  | (_, d) => uptoBulk d + 1
 end
def uptoSmall : (H : Type) → List (DataW H) → Bool := fun _ ds => decide (uptoBulkAll ds ≤ 1048576)
def OpenSpec.upto (s : _root_.Go.ChangeSpec) : _root_.Go.OpenSpec := { _root_.Go.OpenSpec.ofChange s with cond := some uptoSmall }

/-- 'farrierlaw14.LogsRoom', WHERE WHAT IT READS IS OF BULK AT MOST 1048576: true; the input reads as it did. -/
def logsRoomUptoRow : OpenClaim := { program := "ytjednaendedpdaa", sum := "1dffb8a26bb138cdd4f76e3706595a24501f38472c4eb022508ad94976b72879", func := "farrier/farrierlaw14.LogsRoom", spec := "logsRoom", inPlace := ["internal/bytealg.MakeNoZero", "internal/bytealg.CountString", "internal/bytealg.IndexByteString", "internal/bytealg.IndexString"], unfollowed := true, recurses := true, named := ["internal/bytealg.MaxLen"], apart := false, narrowed := true }
def LogsRoomUptoSaid : Prop := logsRoomUptoRow.holds Try.pinned (OpenSpec.upto logsRoomSpec)

/-- 'farrierlaw14.LogsNumbers', WHERE WHAT IT READS IS OF BULK AT MOST 1048576: true; the input reads as it did. -/
def logsNumbersUptoRow : OpenClaim := { program := "ytjednaendedpdaa", sum := "1dffb8a26bb138cdd4f76e3706595a24501f38472c4eb022508ad94976b72879", func := "farrier/farrierlaw14.LogsNumbers", spec := "logsNumbers", inPlace := ["internal/bytealg.MakeNoZero", "internal/bytealg.CountString", "internal/bytealg.IndexByteString", "internal/bytealg.IndexString"], unfollowed := true, recurses := true, named := ["internal/bytealg.MaxLen"], apart := false, narrowed := true }
def LogsNumbersUptoSaid : Prop := logsNumbersUptoRow.holds Try.pinned (OpenSpec.upto logsNumbersSpec)

end Rows
end Go.Proofs.Ytjednaendedpdaa
