/-
  exchequerlaw23.awake and LinesOrder.
-/
import Derived.Test.YtbbfgbkbdhghbaaGreatDoorLinesO
import Derived.Test.YtbbfgbkbdhghbaaGreatDoorLinesE
set_option linter.unusedVariables false
set_option linter.unusedSimpArgs false
namespace Go.Proofs.YtbbfgbkbdhghbaaGreatDoor
open Go.RowKit
variable {w : World} {U : TypeId}

def L1 : List Ln := [(100, 1010, 0, 5), (100, 3000, 0, -5)]
def L2 : List Ln := [(100, 1010, 0, 5), (100, 3000, 0, -4)]
def TA : Tbl := (newFund [] 100 [97]).2
theorem TA_e : (newFund [] 100 [97]).1 = 0 := by decide +kernel
theorem L1_check : checkL TA L1 = 0 := by decide +kernel
theorem L2_check : checkL TA L2 = 10 := by decide +kernel
theorem L1_funds : (!(fundsL L1).any badA) = true := by
  have e : sumsOf L1 = [(100, 0)] := by decide +kernel
  simp [fundsL, fundsOf, e, lnF, badA]
theorem L2_funds : (!(fundsL L2).any badA) = false := by
  have e : sumsOf L2 = [(100, 1)] := by decide +kernel
  simp [fundsL, fundsOf, e, lnF, badA]

theorem law23_awake (w : World) : Calls Tryz.prog 6 #[] w fun e w' => e = .returned (.bool true) ∧ Ext [] w w' := by
  go_enter Tryz.func6, Tryz.ntmps6
  go_wp2_with fail
  refine (view_New w).mono ?_
  rintro e w1 ⟨V, rfl, h1, x1, hV⟩
  dsimp only
  have e0 : str [97] = ⟨#[97]⟩ := rfl
  have hNF := chart_NewFund h1 (by decide) 100 [97] (by decide)
  rw [TA_e, e0] at hNF
  go_wp2_with (go_at_call 9; refine hNF.mono ?_; rintro e w2 ⟨rfl, h2, x2⟩)
  have h2' : IsView w2 V 1 [] TA := h2
  have hal := heap_alloc_new w2 (.cells #[.int .i64 100, .int .i64 1010, .int .i64 0, .int .i64 5, .int .i64 100, .int .i64 3000, .int .i64 0, .int .i64 (-5)] 37)
  have xa := (Ext.refl [] w2).alloc (.cells #[.int .i64 100, .int .i64 1010, .int .i64 0, .int .i64 5, .int .i64 100, .int .i64 3000, .int .i64 0, .int .i64 (-5)] 37)
  have hL : Lns (w2.alloc (.cells #[.int .i64 100, .int .i64 1010, .int .i64 0, .int .i64 5, .int .i64 100, .int .i64 3000, .int .i64 0, .int .i64 (-5)] 37)) 37 (.slice (some ⟨w2.heap.size, 0, none⟩) 2 2) L1 :=
    Sl.lit 37 4 #[.int .i64 100, .int .i64 1010, .int .i64 0, .int .i64 5, .int .i64 100, .int .i64 3000, .int .i64 0, .int .i64 (-5)] 2 (by decide) rfl w2 (by decide)
  have hva := h2'.then xa
  have hC := lines_Check hva hL
  rw [L1_check] at hC
  have hsz := (x1.then (Ext.refl [] w1)).size
  have hsz2 := x2.size
  have hlt := h2'.lt
  generalize (w2.alloc (.cells #[.int .i64 100, .int .i64 1010, .int .i64 0, .int .i64 5, .int .i64 100, .int .i64 3000, .int .i64 0, .int .i64 (-5)] 37)) = wa at *
  generalize hg : w2.heap.size = g at *
  clear e0 hNF
  go_wp2_with (first
    | (go_at_call 11; refine hC.mono ?_; rintro e w3 ⟨rfl, x3⟩; have hE := lines_Equal (hL.then x3) (by decide); rw [L1_funds] at hE; have hal3 := x3.at hal (by simp))
    | (go_at_call 16; refine hE.mono ?_; rintro e w4 ⟨rfl, x4⟩; have hal4 := x4.at hal3 (by simp); have z4 : w4.frozen? ⟨g, 7, none⟩ = false := frozen_of_row w4 g 7 _ _ hal4; have c4 := cell_of (off := 7) hal4 rfl))
  have x5 : Ext [g] w4 (w4.setCell ⟨g, 7, none⟩ (.int .i64 (-4))) := (Ext.refl [g] w4).setCell (fun _ => by simp) _
  have h5 := setCell_at (off := 7) hal4 (.int .i64 (-4))
  have hL5 : Lns (w4.setCell ⟨g, 7, none⟩ (.int .i64 (-4))) 37 (.slice (some ⟨g, 0, none⟩) 2 2) L2 :=
    ⟨_, _, rfl, by decide, by decide, .inr ⟨by decide, g, 0, rfl, _, _, h5, by decide, rfl⟩⟩
  have hv5 : IsView (w4.setCell ⟨g, 7, none⟩ (.int .i64 (-4))) V 1 [] TA := ((hva.then x3).then x4).ext x5 (fun b hb => by simp at hb; omega) (fun b hb cs fr hh => by
    simp at hb
    subst hb
    rw [hal4] at hh; injection hh with hh; injection hh with _ hh _; revert hh; decide)
  have hC5 := lines_Check hv5 hL5
  rw [L2_check] at hC5
  have xz : Ext [] w (w4.setCell ⟨g, 7, none⟩ (.int .i64 (-4))) := ((x1.trans x2 (fun b hb hl => absurd hl (Nat.not_lt.2 (hV b hb)))).then ((xa.then x3).then x4)).trans x5 (fun b hb hl => by simp at hb; omega)
  generalize (w4.setCell ⟨g, 7, none⟩ (.int .i64 (-4))) = w5 at *
  go_wp2_with (first
    | (go_at_call 11; refine hC5.mono ?_; rintro e w6 ⟨rfl, x6⟩; have hE6 := lines_Equal (hL5.then x6) (by decide); rw [L2_funds] at hE6)
    | (go_at_call 16; refine hE6.mono ?_; rintro e w7 ⟨rfl, x7⟩))
  go_ret
  exact ⟨rfl, (xz.then x6).then x7⟩
end Go.Proofs.YtbbfgbkbdhghbaaGreatDoor
