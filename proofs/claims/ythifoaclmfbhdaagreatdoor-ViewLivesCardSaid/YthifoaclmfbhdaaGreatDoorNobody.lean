/-
  What a view that no call made answers.
-/
import Derived.Test.YthifoaclmfbhdaaGreatDoorView4
set_option linter.unusedVariables false
set_option linter.unusedSimpArgs false
namespace Go.Proofs.YthifoaclmfbhdaaGreatDoor
open Go.RowKit

/-- a view that no call made -/
def NoView (w : World) (v : Value) : Prop := v = .pointer none ∨ ∃ b, v = .pointer (some ⟨b, 0, none⟩) ∧ w.cell? ⟨b, 0, none⟩ = some (.map none)
theorem NoView.then {w w' : World} {v : Value} (h : NoView w v) (e : Ext [] w w') : NoView w' v := by
  rcases h with h | ⟨b, h1, h2⟩
  · exact .inl h
  · exact .inr ⟨b, h1, e.cell (by simp) h2⟩

theorem no_ready {w : World} {v : Value} (h : NoView w v) : Calls Tryz.prog 17 #[v] w fun e w' => e = .returned (.bool false) ∧ w = w' := by
  rcases h with rfl | ⟨b, rfl, c0⟩
  · go_enter Tryz.func17, Tryz.ntmps17
    go_wp2_with fail
    go_ret
    exact ⟨rfl, rfl⟩
  · go_enter Tryz.func17, Tryz.ntmps17
    go_wp2_with fail
    go_ret
    exact ⟨rfl, rfl⟩

theorem no_Get {w : World} {v : Value} (h : NoView w v) (k : Value) : Calls Tryz.prog 5 #[v, k] w fun e w' => e = .returned (.tuple #[.slice none 0 0, .bool false]) ∧ w = w' := by
  go_enter Tryz.func5, Tryz.ntmps5
  go_wp2_with (go_at_call 17; refine (no_ready h).mono ?_; rintro e w' ⟨rfl, rfl⟩)
  go_ret2
  exact ⟨rfl, rfl⟩
theorem no_Put {w : World} {v : Value} (h : NoView w v) (k x : Value) : Calls Tryz.prog 8 #[v, k, x] w fun e w' => e = .returned (.int .i64 2) ∧ w = w' := by
  go_enter Tryz.func8, Tryz.ntmps8
  go_wp2_with (go_at_call 17; refine (no_ready h).mono ?_; rintro e w' ⟨rfl, rfl⟩)
  go_ret
  exact ⟨rfl, rfl⟩
theorem no_Delete {w : World} {v : Value} (h : NoView w v) (k : Value) : Calls Tryz.prog 9 #[v, k] w fun e w' => e = .returned (.bool false) ∧ w = w' := by
  go_enter Tryz.func9, Tryz.ntmps9
  go_wp2_with (go_at_call 5; refine (no_Get h _).mono ?_; rintro e w' ⟨rfl, rfl⟩)
  go_ret
  exact ⟨rfl, rfl⟩
theorem no_Scan {w : World} {v : Value} (h : NoView w v) (k : Value) : Calls Tryz.prog 10 #[v, k] w fun e w' => e = .returned (.slice none 0 0) ∧ Ext [] w w' := by
  obtain ⟨p, rfl⟩ : ∃ p, v = .pointer p := by rcases h with rfl | ⟨b, rfl, _⟩; exact ⟨_, rfl⟩; exact ⟨_, rfl⟩
  have x := (Ext.refl [] w).alloc (.cells #[.pointer p] 23)
  have h1 := no_ready (h.then x)
  go_enter Tryz.func10, Tryz.ntmps10
  go_wp2_with (go_at_call 17; refine h1.mono ?_; rintro e w' ⟨rfl, rfl⟩)
  go_ret
  exact ⟨rfl, x⟩
theorem no_Changes {w : World} {v : Value} (h : NoView w v) : Calls Tryz.prog 6 #[v] w fun e w' => e = .returned (.tuple #[.slice none 0 0, .slice none 0 0]) ∧ w = w' := by
  go_enter Tryz.func6, Tryz.ntmps6
  go_wp2_with (go_at_call 17; refine (no_ready h).mono ?_; rintro e w' ⟨rfl, rfl⟩)
  go_ret2
  exact ⟨rfl, rfl⟩
theorem no_Commit {w : World} {v : Value} (h : NoView w v) : Calls Tryz.prog 11 #[v] w fun e w' => e = .returned (.int .i64 2) ∧ w = w' := by
  go_enter Tryz.func11, Tryz.ntmps11
  go_wp2_with (go_at_call 17; refine (no_ready h).mono ?_; rintro e w' ⟨rfl, rfl⟩)
  go_ret
  exact ⟨rfl, rfl⟩
theorem no_Abort {w : World} {v : Value} (h : NoView w v) : Calls Tryz.prog 7 #[v] w fun e w' => e = .returned (.tuple #[]) ∧ w = w' := by
  go_enter Tryz.func7, Tryz.ntmps7
  go_wp2_with (go_at_call 17; refine (no_ready h).mono ?_; rintro e w' ⟨rfl, rfl⟩)
  go_end0
  exact ⟨rfl, rfl⟩
theorem no_Err {w : World} {v : Value} (h : NoView w v) : Calls Tryz.prog 12 #[v] w fun e w' => e = .returned (.int .i64 2) ∧ w = w' := by
  go_enter Tryz.func12, Tryz.ntmps12
  go_wp2_with (go_at_call 17; refine (no_ready h).mono ?_; rintro e w' ⟨rfl, rfl⟩)
  go_ret
  exact ⟨rfl, rfl⟩
end Go.Proofs.YthifoaclmfbhdaaGreatDoor
