/-
  PROVED HERE: the tied card of exchequerlaw23.LinesOrder: for all lines and every number the call returns true and leaves the lines as they were. CONDITION: none beyond the card's own words.
-/
import Derived.Test.YtbbfgbkbdhghbaaGreatDoorRowLinesOrder
import Derived.Test.YtbbfgbkbdhghbaaGreatDoorCards
import Derived.Test.YtbbfgbkbdhghbaaGreatDoorTie
import Derived.SevenTiedAt
namespace Go.Proofs.YtbbfgbkbdhghbaaGreatDoor
open Go

theorem linesOrder_card_holds : Rows.LinesOrderCardSaid :=
  Claim7.holds_tied_plain_at .later [] [.data] true (Rows.linesOrderCard.stood.harness) false
    linesOrder_holds (fun _ h => by cases h) (by kernel_rfl) (fun _ h => by cases h) linesOrder_row_tie rfl ⟨rfl, rfl⟩ (by kernel_rfl) rfl
    (fun f fn hf hfn => by
      obtain rfl : f = 4 := Option.some.inj ((show Tryz.prog.funcNamed "exchequer/exchequerlaw23.LinesOrder" = some 4 by kernel_rfl).symm.trans hf) |>.symm
      obtain rfl : fn = Tryz.f4 := (Option.some.inj (Tryz.func4.symm.trans hfn)).symm
      exact ⟨by kernel_rfl, fun j t ht => by
        rw [Tryz.params4] at ht
        have hm : t ∈ [23, 5] := by simpa using Array.mem_of_getElem? ht
        have hall : ([23, 5].all fun u => !Tryz.prog.wantsStandIn u) = true := by kernel_rfl
        exact (show Tryz.prog.wantsStandIn t = false by simpa using List.all_eq_true.1 hall t hm)⟩)
    (by kernel_rfl)
#print axioms linesOrder_card_holds
end Go.Proofs.YtbbfgbkbdhghbaaGreatDoor
