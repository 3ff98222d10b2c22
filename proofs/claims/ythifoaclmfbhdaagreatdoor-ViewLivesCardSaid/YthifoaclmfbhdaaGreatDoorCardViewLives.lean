/-
  PROVED HERE: the tied card of exchequerlaw14.ViewLives: for every list of calls the call returns true and leaves the list as it was. CONDITION: none beyond the card's own words.
-/
import Derived.Test.YthifoaclmfbhdaaGreatDoorRowViewLives
import Derived.Test.YthifoaclmfbhdaaGreatDoorCards
import Derived.Test.YthifoaclmfbhdaaGreatDoorTie
import Derived.SevenTiedAt
namespace Go.Proofs.YthifoaclmfbhdaaGreatDoor
open Go

theorem viewLives_card_holds : Rows.ViewLivesCardSaid :=
  Claim7.holds_tied_plain_at .later [] [.data] true (Rows.viewLivesCard.stood.harness) false
    viewLives_holds (fun _ h => by cases h) (by kernel_rfl) (fun _ h => by cases h) viewLives_row_tie rfl ⟨rfl, rfl⟩ (by kernel_rfl) rfl
    (fun f fn hf hfn => by
      obtain rfl : f = 4 := Option.some.inj ((show Tryz.prog.funcNamed "exchequer/exchequerlaw14.ViewLives" = some 4 by kernel_rfl).symm.trans hf) |>.symm
      obtain rfl : fn = Tryz.f4 := (Option.some.inj (Tryz.func4.symm.trans hfn)).symm
      exact ⟨by kernel_rfl, fun j t ht => by
        rw [Tryz.params4] at ht
        have hm : t ∈ [43] := by simpa using Array.mem_of_getElem? ht
        have hall : ([43].all fun u => !Tryz.prog.wantsStandIn u) = true := by kernel_rfl
        exact (show Tryz.prog.wantsStandIn t = false by simpa using List.all_eq_true.1 hall t hm)⟩)
    (by kernel_rfl)
#print axioms viewLives_card_holds
end Go.Proofs.YthifoaclmfbhdaaGreatDoor
