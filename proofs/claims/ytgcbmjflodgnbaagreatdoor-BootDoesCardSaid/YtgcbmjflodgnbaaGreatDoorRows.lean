/-
  NARROWER THAN 'FOR EVERY INPUT', by the rows' own cells (each row's printed sentence says how): BootTries: laid · BootCounts: laid · BootReads: laid · BootKeeps: laid · BootDoes: laid.
  DERIVED. THE GIVEN ROWS OF THIS SEAT. 5 by the template 'for every input the law returns true; each argument reads behind the call as it read before'; 0 by the template 'total and deterministic' (their statements: YtgcbmjflodgnbaaGreatDoorTotals.lean).
  GIVEN WITH THE SEED: the statements are not yours to turn. If you find one false, say at which input.
  Laid BY PROGRAM, IN A SANDBOX (cutbox-rows.mjs): the forced cells as the released guide's own fill.sh prints them over the translation 64ccdfbadaade2da… (all of the seat's roots in one cut). By AI agents, Wed Nov 11 2026. No macro, syntax, notation, axiom, sorry.
-/
import Derived.Test.YtgcbmjflodgnbaaGreatDoorChecked
import GoSem.Claim
import GoSem.ClaimJoined
import GoSem.ClaimMapViews
import Derived.JoinedTies
import Derived.KernelRfl
namespace Go.Proofs.YtgcbmjflodgnbaaGreatDoor
/- THE CELL 'sum', in the pinned program and in every row, IS THE sha256 OF THE DUMP (.gsa) THAT YtgcbmjflodgnbaaGreatDoorProg.lean LOADS. Nothing in Lean hashes anything: it is a label: what it is worth is what the hold of that sum in a sandbox is worth. -/
noncomputable def Tryz.pinned : Pinned := { name := "ytgcbmjflodgnbaagreatdoor", sum := "64ccdfbadaade2da9b8a3fe980bbdf853198310383355200dde5d636d3cdf693", checked := Tryz.checked }
namespace Rows
def none {H : Type} : Left H := { results := [], args := [] }

/- WHAT THE LISTED PACKAGE-LEVEL VARIABLES READ AS WHEN THE CALL BEGINS. Each datum BY PROGRAM (the guide's laid-datum.mjs) off the statement by which the dump's own 'gosem.cut.vars' lays the variable. In a bare row this is a premise. The card (YtgcbmjflodgnbaaGreatDoorCards.lean) ties it to the program's text. -/
def laid_farrier_boot_errNone {H : Type} : DataW H := .iface "*errors.errorString" (.ptr (.agg [.lit (.string [110, 111, 32, 114, 101, 99, 111, 114, 100])]))

/-- 'farrierlaw13.BootTries': WHATEVER THE INPUT: true; the input reads as it did. -/
def bootTriesSpec : ChangeSpec := { name := "bootTries", fn := fun _ => fun
  | [d] => { results := [.lit (.bool true)], args := [d] }
  | _ => none }
def bootTriesRow : OpenClaim := { program := "ytgcbmjflodgnbaagreatdoor", sum := "64ccdfbadaade2da9b8a3fe980bbdf853198310383355200dde5d636d3cdf693", func := "farrier/farrierlaw13.BootTries", spec := "bootTries", inPlace := ["internal/bytealg.MakeNoZero", "internal/bytealg.CountString", "internal/bytealg.IndexByteString", "internal/bytealg.IndexString", "internal/abi.NoEscape", "internal/reflectlite.TypeOf"], unfollowed := true, recurses := true, named := ["internal/bytealg.MaxLen", "farrier/boot.errNone"], apart := false, laid := [("farrier/boot.errNone", laid_farrier_boot_errNone)] }
def BootTriesSaid : Prop := bootTriesRow.holds Tryz.pinned (OpenSpec.ofChange bootTriesSpec)

/-- ITS FALSE NEIGHBOUR: 'it returns false'. Refute it at one input. -/
def bootTriesWrong : ChangeSpec := { name := "bootTries", fn := fun _ => fun
  | [d] => { results := [.lit (.bool false)], args := [d] }
  | _ => none }
def BootTriesWrongFalsely : Prop := bootTriesRow.holds Tryz.pinned (OpenSpec.ofChange bootTriesWrong)

/-- 'farrierlaw13.BootCounts': WHATEVER THE INPUT: true; the input reads as it did. -/
def bootCountsSpec : ChangeSpec := { name := "bootCounts", fn := fun _ => fun
  | [d] => { results := [.lit (.bool true)], args := [d] }
  | _ => none }
def bootCountsRow : OpenClaim := { program := "ytgcbmjflodgnbaagreatdoor", sum := "64ccdfbadaade2da9b8a3fe980bbdf853198310383355200dde5d636d3cdf693", func := "farrier/farrierlaw13.BootCounts", spec := "bootCounts", inPlace := ["internal/bytealg.MakeNoZero", "internal/bytealg.CountString", "internal/bytealg.IndexByteString", "internal/bytealg.IndexString", "internal/abi.NoEscape", "internal/reflectlite.TypeOf"], unfollowed := true, recurses := true, named := ["internal/bytealg.MaxLen", "farrier/boot.errNone"], apart := false, laid := [("farrier/boot.errNone", laid_farrier_boot_errNone)] }
def BootCountsSaid : Prop := bootCountsRow.holds Tryz.pinned (OpenSpec.ofChange bootCountsSpec)

/-- ITS FALSE NEIGHBOUR: 'it returns false'. Refute it at one input. -/
def bootCountsWrong : ChangeSpec := { name := "bootCounts", fn := fun _ => fun
  | [d] => { results := [.lit (.bool false)], args := [d] }
  | _ => none }
def BootCountsWrongFalsely : Prop := bootCountsRow.holds Tryz.pinned (OpenSpec.ofChange bootCountsWrong)

/-- 'farrierlaw13.BootReads': WHATEVER THE INPUT: true; the input reads as it did. -/
def bootReadsSpec : ChangeSpec := { name := "bootReads", fn := fun _ => fun
  | [d] => { results := [.lit (.bool true)], args := [d] }
  | _ => none }
def bootReadsRow : OpenClaim := { program := "ytgcbmjflodgnbaagreatdoor", sum := "64ccdfbadaade2da9b8a3fe980bbdf853198310383355200dde5d636d3cdf693", func := "farrier/farrierlaw13.BootReads", spec := "bootReads", inPlace := ["internal/abi.NoEscape", "internal/bytealg.MakeNoZero", "internal/reflectlite.TypeOf", "internal/bytealg.CountString", "internal/bytealg.IndexByteString", "internal/bytealg.IndexString"], unfollowed := true, recurses := true, named := ["farrier/boot.errNone", "internal/bytealg.MaxLen"], apart := false, laid := [("farrier/boot.errNone", laid_farrier_boot_errNone)] }
def BootReadsSaid : Prop := bootReadsRow.holds Tryz.pinned (OpenSpec.ofChange bootReadsSpec)

/-- ITS FALSE NEIGHBOUR: 'it returns false'. Refute it at one input. -/
def bootReadsWrong : ChangeSpec := { name := "bootReads", fn := fun _ => fun
  | [d] => { results := [.lit (.bool false)], args := [d] }
  | _ => none }
def BootReadsWrongFalsely : Prop := bootReadsRow.holds Tryz.pinned (OpenSpec.ofChange bootReadsWrong)

/-- 'farrierlaw13.BootKeeps': WHATEVER THE INPUT: true; the input reads as it did. -/
def bootKeepsSpec : ChangeSpec := { name := "bootKeeps", fn := fun _ => fun
  | [d1, d2] => { results := [.lit (.bool true)], args := [d1, d2] }
  | _ => none }
def bootKeepsRow : OpenClaim := { program := "ytgcbmjflodgnbaagreatdoor", sum := "64ccdfbadaade2da9b8a3fe980bbdf853198310383355200dde5d636d3cdf693", func := "farrier/farrierlaw13.BootKeeps", spec := "bootKeeps", inPlace := ["internal/bytealg.MakeNoZero", "internal/bytealg.CountString", "internal/bytealg.IndexByteString", "internal/bytealg.IndexString", "internal/abi.NoEscape", "internal/reflectlite.TypeOf"], unfollowed := true, recurses := true, named := ["internal/bytealg.MaxLen", "farrier/boot.errNone"], apart := false, laid := [("farrier/boot.errNone", laid_farrier_boot_errNone)] }
def BootKeepsSaid : Prop := bootKeepsRow.holds Tryz.pinned (OpenSpec.ofChange bootKeepsSpec)

/-- ITS FALSE NEIGHBOUR: 'it returns false'. Refute it at one input. -/
def bootKeepsWrong : ChangeSpec := { name := "bootKeeps", fn := fun _ => fun
  | [d1, d2] => { results := [.lit (.bool false)], args := [d1, d2] }
  | _ => none }
def BootKeepsWrongFalsely : Prop := bootKeepsRow.holds Tryz.pinned (OpenSpec.ofChange bootKeepsWrong)

/-- 'farrierlaw13.BootDoes': WHATEVER THE INPUT: true; the input reads as it did. -/
def bootDoesSpec : ChangeSpec := { name := "bootDoes", fn := fun _ => fun
  | [d1, d2] => { results := [.lit (.bool true)], args := [d1, d2] }
  | _ => none }
def bootDoesRow : OpenClaim := { program := "ytgcbmjflodgnbaagreatdoor", sum := "64ccdfbadaade2da9b8a3fe980bbdf853198310383355200dde5d636d3cdf693", func := "farrier/farrierlaw13.BootDoes", spec := "bootDoes", inPlace := ["internal/bytealg.MakeNoZero", "internal/bytealg.CountString", "internal/bytealg.IndexByteString", "internal/bytealg.IndexString", "internal/abi.NoEscape", "internal/reflectlite.TypeOf"], unfollowed := true, recurses := true, named := ["internal/bytealg.MaxLen", "farrier/boot.errNone"], apart := false, laid := [("farrier/boot.errNone", laid_farrier_boot_errNone)] }
def BootDoesSaid : Prop := bootDoesRow.holds Tryz.pinned (OpenSpec.ofChange bootDoesSpec)

/-- ITS FALSE NEIGHBOUR: 'it returns false'. Refute it at one input. -/
def bootDoesWrong : ChangeSpec := { name := "bootDoes", fn := fun _ => fun
  | [d1, d2] => { results := [.lit (.bool false)], args := [d1, d2] }
  | _ => none }
def BootDoesWrongFalsely : Prop := bootDoesRow.holds Tryz.pinned (OpenSpec.ofChange bootDoesWrong)

/- THE SECOND FORM. 'bulk': how many values and letters a reading holds, each counted each time it is reached (what is shared counts as often as it is met; a slice's spare places count too). A statement '..UptoSaid' is the law's where the arguments, and the package variables that the reading takes, are together of bulk at most 1048576: NARROWER than '..Said'. Prove '..Said' where nothing that the law and all that it calls make is longer than what came in: it says more and counts as full. Else prove '..UptoSaid'. A law counts once. -/
mutual
def uptoBulk {H : Type} : DataW H → Nat
  | .lit (.string bytes) => bytes.length + 1
  | .lit _ => 1
  | .nil => 1
  | .ptr d => uptoBulk d + 1
  | .slice elems spare => uptoBulkAll elems + uptoBulkAll spare + 1
  | .agg parts => uptoBulkAll parts + 1
  | .iface _ d => uptoBulk d + 1
  | .map entries => uptoBulkEntries entries + 1
  | .held _ => 1
def uptoBulkAll {H : Type} : List (DataW H) → Nat
  | [] => 0
  | d :: r => uptoBulk d + uptoBulkAll r
def uptoBulkEntries {H : Type} : List (Lit × DataW H) → Nat
  | [] => 0
  | x :: r => uptoBulkEntry x + uptoBulkEntries r
def uptoBulkEntry {H : Type} : Lit × DataW H → Nat
  | (.string bytes, d) => bytes.length + uptoBulk d + 1
  | (_, d) => uptoBulk d + 1
 end
def uptoSmall : (H : Type) → List (DataW H) → Bool := fun _ ds => decide (uptoBulkAll ds ≤ 1048576)
def OpenSpec.upto (s : _root_.Go.ChangeSpec) : _root_.Go.OpenSpec := { _root_.Go.OpenSpec.ofChange s with cond := some uptoSmall }

/-- 'farrierlaw13.BootTries', WHERE WHAT IT READS IS OF BULK AT MOST 1048576: true; the input reads as it did. -/
def bootTriesUptoRow : OpenClaim := { program := "ytgcbmjflodgnbaagreatdoor", sum := "64ccdfbadaade2da9b8a3fe980bbdf853198310383355200dde5d636d3cdf693", func := "farrier/farrierlaw13.BootTries", spec := "bootTries", inPlace := ["internal/bytealg.MakeNoZero", "internal/bytealg.CountString", "internal/bytealg.IndexByteString", "internal/bytealg.IndexString", "internal/abi.NoEscape", "internal/reflectlite.TypeOf"], unfollowed := true, recurses := true, named := ["internal/bytealg.MaxLen", "farrier/boot.errNone"], apart := false, laid := [("farrier/boot.errNone", laid_farrier_boot_errNone)], narrowed := true }
def BootTriesUptoSaid : Prop := bootTriesUptoRow.holds Tryz.pinned (OpenSpec.upto bootTriesSpec)

/-- 'farrierlaw13.BootCounts', WHERE WHAT IT READS IS OF BULK AT MOST 1048576: true; the input reads as it did. -/
def bootCountsUptoRow : OpenClaim := { program := "ytgcbmjflodgnbaagreatdoor", sum := "64ccdfbadaade2da9b8a3fe980bbdf853198310383355200dde5d636d3cdf693", func := "farrier/farrierlaw13.BootCounts", spec := "bootCounts", inPlace := ["internal/bytealg.MakeNoZero", "internal/bytealg.CountString", "internal/bytealg.IndexByteString", "internal/bytealg.IndexString", "internal/abi.NoEscape", "internal/reflectlite.TypeOf"], unfollowed := true, recurses := true, named := ["internal/bytealg.MaxLen", "farrier/boot.errNone"], apart := false, laid := [("farrier/boot.errNone", laid_farrier_boot_errNone)], narrowed := true }
def BootCountsUptoSaid : Prop := bootCountsUptoRow.holds Tryz.pinned (OpenSpec.upto bootCountsSpec)

/-- 'farrierlaw13.BootReads', WHERE WHAT IT READS IS OF BULK AT MOST 1048576: true; the input reads as it did. -/
def bootReadsUptoRow : OpenClaim := { program := "ytgcbmjflodgnbaagreatdoor", sum := "64ccdfbadaade2da9b8a3fe980bbdf853198310383355200dde5d636d3cdf693", func := "farrier/farrierlaw13.BootReads", spec := "bootReads", inPlace := ["internal/abi.NoEscape", "internal/bytealg.MakeNoZero", "internal/reflectlite.TypeOf", "internal/bytealg.CountString", "internal/bytealg.IndexByteString", "internal/bytealg.IndexString"], unfollowed := true, recurses := true, named := ["farrier/boot.errNone", "internal/bytealg.MaxLen"], apart := false, laid := [("farrier/boot.errNone", laid_farrier_boot_errNone)], narrowed := true }
def BootReadsUptoSaid : Prop := bootReadsUptoRow.holds Tryz.pinned (OpenSpec.upto bootReadsSpec)

/-- 'farrierlaw13.BootKeeps', WHERE WHAT IT READS IS OF BULK AT MOST 1048576: true; the input reads as it did. -/
def bootKeepsUptoRow : OpenClaim := { program := "ytgcbmjflodgnbaagreatdoor", sum := "64ccdfbadaade2da9b8a3fe980bbdf853198310383355200dde5d636d3cdf693", func := "farrier/farrierlaw13.BootKeeps", spec := "bootKeeps", inPlace := ["internal/bytealg.MakeNoZero", "internal/bytealg.CountString", "internal/bytealg.IndexByteString", "internal/bytealg.IndexString", "internal/abi.NoEscape", "internal/reflectlite.TypeOf"], unfollowed := true, recurses := true, named := ["internal/bytealg.MaxLen", "farrier/boot.errNone"], apart := false, laid := [("farrier/boot.errNone", laid_farrier_boot_errNone)], narrowed := true }
def BootKeepsUptoSaid : Prop := bootKeepsUptoRow.holds Tryz.pinned (OpenSpec.upto bootKeepsSpec)

/-- 'farrierlaw13.BootDoes', WHERE WHAT IT READS IS OF BULK AT MOST 1048576: true; the input reads as it did. -/
def bootDoesUptoRow : OpenClaim := { program := "ytgcbmjflodgnbaagreatdoor", sum := "64ccdfbadaade2da9b8a3fe980bbdf853198310383355200dde5d636d3cdf693", func := "farrier/farrierlaw13.BootDoes", spec := "bootDoes", inPlace := ["internal/bytealg.MakeNoZero", "internal/bytealg.CountString", "internal/bytealg.IndexByteString", "internal/bytealg.IndexString", "internal/abi.NoEscape", "internal/reflectlite.TypeOf"], unfollowed := true, recurses := true, named := ["internal/bytealg.MaxLen", "farrier/boot.errNone"], apart := false, laid := [("farrier/boot.errNone", laid_farrier_boot_errNone)], narrowed := true }
def BootDoesUptoSaid : Prop := bootDoesUptoRow.holds Tryz.pinned (OpenSpec.upto bootDoesSpec)

end Rows
end Go.Proofs.YtgcbmjflodgnbaaGreatDoor
