/-
  DERIVED. GIVEN WITH THE SEED: THE CARDS: each row of YthifoaclmfbhdaaGreatDoorRows.lean that lists a variable, with what it lists TIED to the program's text (the seventh form; the later family's looks); each row that meets fmt, with fmt's text TOLD by the authors' own Lean function (tested against real Go, not proved from fmt's source: count such statements apart). THE CARD IS WHAT COUNTS. Prove the row's statement (the work); the ties are given (YthifoaclmfbhdaaGreatDoorTie.lean); close each card by the builder's one call (the guide's Derived/Test/ToyasCard.lean, 'card_holds'). Laid BY PROGRAM, IN A SANDBOX (cutbox-door.mjs). By AI agents, Wed Nov 11 2026. No macro, syntax, notation, axiom, sorry.
-/
import Derived.Test.YthifoaclmfbhdaaGreatDoorRows
import GoSem.ClaimSeven
namespace Go.Proofs.YthifoaclmfbhdaaGreatDoor
namespace Rows

/-- THE TIED CARD OF 'exchequerlaw14.ViewNobody'. -/
def viewNobodyCard : Claim7 := { stood := { row := viewNobodyRow, standIns := [], harness := (true, "1e5ba4cae6f827100b5a4faca2b56c7fcf7f1e3507ce01346beb1ffae624fdad"), looks := false }, kinds := [], alts := [], laidByText := true, laidKinds := [.data], laidTests := true, laidLooks := .later }
def ViewNobodyCardSaid : Prop := Claim7.holds Tryz.pinned (.plain (OpenSpec.ofChange viewNobodySpec)) viewNobodyCard

/-- THE TIED CARD OF 'exchequerlaw14.ViewLives'. -/
def viewLivesCard : Claim7 := { stood := { row := viewLivesRow, standIns := [], harness := (true, "1e5ba4cae6f827100b5a4faca2b56c7fcf7f1e3507ce01346beb1ffae624fdad"), looks := false }, kinds := [], alts := [], laidByText := true, laidKinds := [.data], laidTests := true, laidLooks := .later }
def ViewLivesCardSaid : Prop := Claim7.holds Tryz.pinned (.plain (OpenSpec.ofChange viewLivesSpec)) viewLivesCard

/-- THE SECOND FORM's CARD OF 'exchequerlaw14.ViewNobody'. -/
def viewNobodyUptoCard : Claim7 := { stood := { row := viewNobodyUptoRow, standIns := [], harness := (true, "1e5ba4cae6f827100b5a4faca2b56c7fcf7f1e3507ce01346beb1ffae624fdad"), looks := false }, kinds := [], alts := [], laidByText := true, laidKinds := [.data], laidTests := true, laidLooks := .later }
def ViewNobodyUptoCardSaid : Prop := Claim7.holds Tryz.pinned (.plain (OpenSpec.upto viewNobodySpec)) viewNobodyUptoCard

/-- THE SECOND FORM's CARD OF 'exchequerlaw14.ViewLives'. -/
def viewLivesUptoCard : Claim7 := { stood := { row := viewLivesUptoRow, standIns := [], harness := (true, "1e5ba4cae6f827100b5a4faca2b56c7fcf7f1e3507ce01346beb1ffae624fdad"), looks := false }, kinds := [], alts := [], laidByText := true, laidKinds := [.data], laidTests := true, laidLooks := .later }
def ViewLivesUptoCardSaid : Prop := Claim7.holds Tryz.pinned (.plain (OpenSpec.upto viewLivesSpec)) viewLivesUptoCard
end Rows
end Go.Proofs.YthifoaclmfbhdaaGreatDoor
