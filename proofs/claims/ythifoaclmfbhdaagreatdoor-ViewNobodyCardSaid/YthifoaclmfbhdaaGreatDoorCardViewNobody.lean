/-
  PROVED HERE: the tied card of exchequerlaw14.ViewNobody: for every key and every value the call returns true and leaves both as they were. CONDITION: none beyond the card's own words.
-/
import Derived.Test.YthifoaclmfbhdaaGreatDoorRowViewNobody
import Derived.Test.YthifoaclmfbhdaaGreatDoorCards
import Derived.Test.YthifoaclmfbhdaaGreatDoorTie
import Derived.SevenTiedAt
namespace Go.Proofs.YthifoaclmfbhdaaGreatDoor
open Go

theorem viewNobody_card_holds : Rows.ViewNobodyCardSaid :=
  Claim7.holds_tied_plain_at .later [] [.data] true (Rows.viewNobodyCard.stood.harness) false
    viewNobody_holds (fun _ h => by cases h) (by kernel_rfl) (fun _ h => by cases h) viewNobody_row_tie rfl ⟨rfl, rfl⟩ (by kernel_rfl) rfl
    (fun f fn hf hfn => by
      obtain rfl : f = 3 := Option.some.inj ((show Tryz.prog.funcNamed "exchequer/exchequerlaw14.ViewNobody" = some 3 by kernel_rfl).symm.trans hf) |>.symm
      obtain rfl : fn = Tryz.f3 := (Option.some.inj (Tryz.func3.symm.trans hfn)).symm
      exact ⟨by kernel_rfl, fun j t ht => by
        rw [Tryz.params3] at ht
        have hm : t ∈ [22] := by simpa using Array.mem_of_getElem? ht
        have hall : ([22].all fun u => !Tryz.prog.wantsStandIn u) = true := by kernel_rfl
        exact (show Tryz.prog.wantsStandIn t = false by simpa using List.all_eq_true.1 hall t hm)⟩)
    (by kernel_rfl)
#print axioms viewNobody_card_holds
end Go.Proofs.YthifoaclmfbhdaaGreatDoor
