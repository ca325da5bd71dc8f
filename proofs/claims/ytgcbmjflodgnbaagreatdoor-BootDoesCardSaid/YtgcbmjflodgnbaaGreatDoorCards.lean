/-
  DERIVED. GIVEN WITH THE SEED: THE CARDS: each row of YtgcbmjflodgnbaaGreatDoorRows.lean that lists a variable, with what it lists TIED to the program's text (the seventh form; the later family's looks); each row that meets fmt, with fmt's text TOLD by the authors' own Lean function (tested against real Go, not proved from fmt's source: count such statements apart). THE CARD IS WHAT COUNTS. Prove the row's statement (the work); the ties are given (YtgcbmjflodgnbaaGreatDoorTie.lean); close each card by the builder's one call (the guide's Derived/Test/ToyasCard.lean, 'card_holds'). Laid BY PROGRAM, IN A SANDBOX (cutbox-door.mjs). By AI agents, Wed Nov 11 2026. No macro, syntax, notation, axiom, sorry.
-/
import Derived.Test.YtgcbmjflodgnbaaGreatDoorRows
import GoSem.ClaimSeven
namespace Go.Proofs.YtgcbmjflodgnbaaGreatDoor
namespace Rows

/-- THE TIED CARD OF 'farrierlaw13.BootTries'. -/
def bootTriesCard : Claim7 := { stood := { row := bootTriesRow, standIns := [], harness := (true, "bca05c1a9d64a4f37ed95cd182a0ba0d0af10f4067693d4176dd00de616c8a9b"), looks := true }, kinds := [], alts := [], laidByText := true, laidKinds := [.sentinel], laidTests := true, laidLooks := .later }
def BootTriesCardSaid : Prop := Claim7.holds Tryz.pinned (.plain (OpenSpec.ofChange bootTriesSpec)) bootTriesCard

/-- THE TIED CARD OF 'farrierlaw13.BootCounts'. -/
def bootCountsCard : Claim7 := { stood := { row := bootCountsRow, standIns := [], harness := (true, "bca05c1a9d64a4f37ed95cd182a0ba0d0af10f4067693d4176dd00de616c8a9b"), looks := true }, kinds := [], alts := [], laidByText := true, laidKinds := [.sentinel], laidTests := true, laidLooks := .later }
def BootCountsCardSaid : Prop := Claim7.holds Tryz.pinned (.plain (OpenSpec.ofChange bootCountsSpec)) bootCountsCard

/-- THE TIED CARD OF 'farrierlaw13.BootReads'. -/
def bootReadsCard : Claim7 := { stood := { row := bootReadsRow, standIns := [], harness := (true, "bca05c1a9d64a4f37ed95cd182a0ba0d0af10f4067693d4176dd00de616c8a9b"), looks := true }, kinds := [], alts := [], laidByText := true, laidKinds := [.sentinel], laidTests := true, laidLooks := .later }
def BootReadsCardSaid : Prop := Claim7.holds Tryz.pinned (.plain (OpenSpec.ofChange bootReadsSpec)) bootReadsCard

/-- THE TIED CARD OF 'farrierlaw13.BootKeeps'. -/
def bootKeepsCard : Claim7 := { stood := { row := bootKeepsRow, standIns := [], harness := (true, "bca05c1a9d64a4f37ed95cd182a0ba0d0af10f4067693d4176dd00de616c8a9b"), looks := true }, kinds := [], alts := [], laidByText := true, laidKinds := [.sentinel], laidTests := true, laidLooks := .later }
def BootKeepsCardSaid : Prop := Claim7.holds Tryz.pinned (.plain (OpenSpec.ofChange bootKeepsSpec)) bootKeepsCard

/-- THE TIED CARD OF 'farrierlaw13.BootDoes'. -/
def bootDoesCard : Claim7 := { stood := { row := bootDoesRow, standIns := [], harness := (true, "bca05c1a9d64a4f37ed95cd182a0ba0d0af10f4067693d4176dd00de616c8a9b"), looks := true }, kinds := [], alts := [], laidByText := true, laidKinds := [.sentinel], laidTests := true, laidLooks := .later }
def BootDoesCardSaid : Prop := Claim7.holds Tryz.pinned (.plain (OpenSpec.ofChange bootDoesSpec)) bootDoesCard

/-- THE SECOND FORM's CARD OF 'farrierlaw13.BootTries'. -/
def bootTriesUptoCard : Claim7 := { stood := { row := bootTriesUptoRow, standIns := [], harness := (true, "bca05c1a9d64a4f37ed95cd182a0ba0d0af10f4067693d4176dd00de616c8a9b"), looks := true }, kinds := [], alts := [], laidByText := true, laidKinds := [.sentinel], laidTests := true, laidLooks := .later }
def BootTriesUptoCardSaid : Prop := Claim7.holds Tryz.pinned (.plain (OpenSpec.upto bootTriesSpec)) bootTriesUptoCard

/-- THE SECOND FORM's CARD OF 'farrierlaw13.BootCounts'. -/
def bootCountsUptoCard : Claim7 := { stood := { row := bootCountsUptoRow, standIns := [], harness := (true, "bca05c1a9d64a4f37ed95cd182a0ba0d0af10f4067693d4176dd00de616c8a9b"), looks := true }, kinds := [], alts := [], laidByText := true, laidKinds := [.sentinel], laidTests := true, laidLooks := .later }
def BootCountsUptoCardSaid : Prop := Claim7.holds Tryz.pinned (.plain (OpenSpec.upto bootCountsSpec)) bootCountsUptoCard

/-- THE SECOND FORM's CARD OF 'farrierlaw13.BootReads'. -/
def bootReadsUptoCard : Claim7 := { stood := { row := bootReadsUptoRow, standIns := [], harness := (true, "bca05c1a9d64a4f37ed95cd182a0ba0d0af10f4067693d4176dd00de616c8a9b"), looks := true }, kinds := [], alts := [], laidByText := true, laidKinds := [.sentinel], laidTests := true, laidLooks := .later }
def BootReadsUptoCardSaid : Prop := Claim7.holds Tryz.pinned (.plain (OpenSpec.upto bootReadsSpec)) bootReadsUptoCard

/-- THE SECOND FORM's CARD OF 'farrierlaw13.BootKeeps'. -/
def bootKeepsUptoCard : Claim7 := { stood := { row := bootKeepsUptoRow, standIns := [], harness := (true, "bca05c1a9d64a4f37ed95cd182a0ba0d0af10f4067693d4176dd00de616c8a9b"), looks := true }, kinds := [], alts := [], laidByText := true, laidKinds := [.sentinel], laidTests := true, laidLooks := .later }
def BootKeepsUptoCardSaid : Prop := Claim7.holds Tryz.pinned (.plain (OpenSpec.upto bootKeepsSpec)) bootKeepsUptoCard

/-- THE SECOND FORM's CARD OF 'farrierlaw13.BootDoes'. -/
def bootDoesUptoCard : Claim7 := { stood := { row := bootDoesUptoRow, standIns := [], harness := (true, "bca05c1a9d64a4f37ed95cd182a0ba0d0af10f4067693d4176dd00de616c8a9b"), looks := true }, kinds := [], alts := [], laidByText := true, laidKinds := [.sentinel], laidTests := true, laidLooks := .later }
def BootDoesUptoCardSaid : Prop := Claim7.holds Tryz.pinned (.plain (OpenSpec.upto bootDoesSpec)) bootDoesUptoCard
end Rows
end Go.Proofs.YtgcbmjflodgnbaaGreatDoor
