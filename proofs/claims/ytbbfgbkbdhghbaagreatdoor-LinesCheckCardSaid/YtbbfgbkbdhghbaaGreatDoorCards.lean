/-
  DERIVED. GIVEN WITH THE SEED: THE CARDS: each row of YtbbfgbkbdhghbaaGreatDoorRows.lean that lists a variable, with what it lists TIED to the program's text (the seventh form; the later family's looks); each row that meets fmt, with fmt's text TOLD by the authors' own Lean function (tested against real Go, not proved from fmt's source: count such statements apart). THE CARD IS WHAT COUNTS. Prove the row's statement (the work); the ties are given (YtbbfgbkbdhghbaaGreatDoorTie.lean); close each card by the builder's one call (the guide's Derived/Test/ToyasCard.lean, 'card_holds'). Laid BY PROGRAM, IN A SANDBOX (cutbox-door.mjs). By AI agents, Wed Nov 11 2026. No macro, syntax, notation, axiom, sorry.
-/
import Derived.Test.YtbbfgbkbdhghbaaGreatDoorRows
import GoSem.ClaimSeven
namespace Go.Proofs.YtbbfgbkbdhghbaaGreatDoor
namespace Rows

/-- THE TIED CARD OF 'exchequerlaw23.LinesCheck'. -/
def linesCheckCard : Claim7 := { stood := { row := linesCheckRow, standIns := [], harness := (true, "c241602c14d64368c117945da875e22ff6bea50a8064b22638511a74146adab4"), looks := false }, kinds := [], alts := [], laidByText := true, laidKinds := [.data], laidTests := true, laidLooks := .later }
def LinesCheckCardSaid : Prop := Claim7.holds Tryz.pinned (.plain (OpenSpec.ofChange linesCheckSpec)) linesCheckCard

/-- THE TIED CARD OF 'exchequerlaw23.LinesOrder'. -/
def linesOrderCard : Claim7 := { stood := { row := linesOrderRow, standIns := [], harness := (true, "c241602c14d64368c117945da875e22ff6bea50a8064b22638511a74146adab4"), looks := false }, kinds := [], alts := [], laidByText := true, laidKinds := [.data], laidTests := true, laidLooks := .later }
def LinesOrderCardSaid : Prop := Claim7.holds Tryz.pinned (.plain (OpenSpec.ofChange linesOrderSpec)) linesOrderCard

/-- THE SECOND FORM's CARD OF 'exchequerlaw23.LinesCheck'. -/
def linesCheckUptoCard : Claim7 := { stood := { row := linesCheckUptoRow, standIns := [], harness := (true, "c241602c14d64368c117945da875e22ff6bea50a8064b22638511a74146adab4"), looks := false }, kinds := [], alts := [], laidByText := true, laidKinds := [.data], laidTests := true, laidLooks := .later }
def LinesCheckUptoCardSaid : Prop := Claim7.holds Tryz.pinned (.plain (OpenSpec.upto linesCheckSpec)) linesCheckUptoCard

/-- THE SECOND FORM's CARD OF 'exchequerlaw23.LinesOrder'. -/
def linesOrderUptoCard : Claim7 := { stood := { row := linesOrderUptoRow, standIns := [], harness := (true, "c241602c14d64368c117945da875e22ff6bea50a8064b22638511a74146adab4"), looks := false }, kinds := [], alts := [], laidByText := true, laidKinds := [.data], laidTests := true, laidLooks := .later }
def LinesOrderUptoCardSaid : Prop := Claim7.holds Tryz.pinned (.plain (OpenSpec.upto linesOrderSpec)) linesOrderUptoCard
end Rows
end Go.Proofs.YtbbfgbkbdhghbaaGreatDoor
