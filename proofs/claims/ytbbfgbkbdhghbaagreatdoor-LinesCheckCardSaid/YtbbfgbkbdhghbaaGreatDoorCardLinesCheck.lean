/-
  PROVED HERE: the tied card of exchequerlaw23.LinesCheck: for all funds and all lines the call returns true and leaves both as they were. CONDITION: none beyond the card's own words.
-/
import Derived.Test.YtbbfgbkbdhghbaaGreatDoorRowLinesCheck
import Derived.Test.YtbbfgbkbdhghbaaGreatDoorCards
import Derived.Test.YtbbfgbkbdhghbaaGreatDoorTie
import Derived.SevenTiedAt
namespace Go.Proofs.YtbbfgbkbdhghbaaGreatDoor
open Go

theorem linesCheck_card_holds : Rows.LinesCheckCardSaid :=
  Claim7.holds_tied_plain_at .later [] [.data] true (Rows.linesCheckCard.stood.harness) false
    linesCheck_holds (fun _ h => by cases h) (by kernel_rfl) (fun _ h => by cases h) linesCheck_row_tie rfl ⟨rfl, rfl⟩ (by kernel_rfl) rfl
    (fun f fn hf hfn => by
      obtain rfl : f = 3 := Option.some.inj ((show Tryz.prog.funcNamed "exchequer/exchequerlaw23.LinesCheck" = some 3 by kernel_rfl).symm.trans hf) |>.symm
      obtain rfl : fn = Tryz.f3 := (Option.some.inj (Tryz.func3.symm.trans hfn)).symm
      exact ⟨by kernel_rfl, fun j t ht => by
        rw [Tryz.params3] at ht
        have hm : t ∈ [22, 23] := by simpa using Array.mem_of_getElem? ht
        have hall : ([22, 23].all fun u => !Tryz.prog.wantsStandIn u) = true := by kernel_rfl
        exact (show Tryz.prog.wantsStandIn t = false by simpa using List.all_eq_true.1 hall t hm)⟩)
    (by kernel_rfl)
#print axioms linesCheck_card_holds
end Go.Proofs.YtbbfgbkbdhghbaaGreatDoor
