/-
  An argument's lines, opened.
-/
import Derived.Test.YtbbfgbkbdhghbaaGreatDoorLines
set_option linter.unusedVariables false
set_option linter.unusedSimpArgs false
namespace Go.Proofs.YtbbfgbkbdhghbaaGreatDoor
open Go.RowKit Go.ChangeShapes Go.WideShapes

section
variable {H : Type} {enc : TypeId × Value → H} {w : World} {base : Nat} {spare : Nat → Bool} {held : Bool}
theorem open_line {f : Nat} {cs : List Value} {y : DataW H × List MemPlace} (hl : cs.length = 4) (h : DataW.trod enc Tryz.prog w base spare held f 37 cs = some y) : ∃ x : Ln, cs = lnC x := by
  have c1 : Tryz.prog.cellsOf 3 = 1 := by kernel_rfl
  obtain ⟨n, hf⟩ := open_fields Tryz.underlying37 h
  obtain ⟨a, b, c, d, rfl⟩ := len4 hl
  obtain ⟨_, h0⟩ := open_field1 hf 0 rfl c1 rfl
  obtain ⟨_, h1⟩ := open_field1 hf 1 rfl c1 rfl
  obtain ⟨_, h2⟩ := open_field1 hf 2 rfl c1 rfl
  obtain ⟨_, h3⟩ := open_field1 hf 3 rfl c1 rfl
  obtain ⟨x0, rfl, _⟩ := open_int1 Tryz.underlying3 h0
  obtain ⟨x1, rfl, _⟩ := open_int1 Tryz.underlying3 h1
  obtain ⟨x2, rfl, _⟩ := open_int1 Tryz.underlying3 h2
  obtain ⟨x3, rfl, _⟩ := open_int1 Tryz.underlying3 h3
  exact ⟨(x0, x1, x2, x3), rfl⟩
theorem open_lines {v : Value} {d : DataW H} {p : List MemPlace} (hv : v.cells.toList = [v]) (h : DataW.Trod enc Tryz.prog w base spare held 23 v d p) : ∃ (l : List Ln) (U : TypeId), Lns w U v l := by
  obtain ⟨f, h⟩ := h
  rw [hv] at h
  obtain ⟨css, U, f, _, h1, h2⟩ := open_rows 4 Tryz.underlying23 (by kernel_rfl) (by decide) h
  have hb : ∀ css : List (List Value), (∀ cs ∈ css, cs.length = 4 ∧ ∃ y, DataW.trod enc Tryz.prog w base spare held f 37 cs = some y) → ∃ l : List Ln, css.flatten = l.flatMap lnC ∧ l.length = css.length := by
    intro css
    induction css with
    | nil => intro _; exact ⟨[], rfl, rfl⟩
    | cons c css ih =>
      intro h
      obtain ⟨l, e1, e2⟩ := ih (fun cs hcs => h cs (.tail _ hcs))
      obtain ⟨hl, y, hy⟩ := h c (.head _)
      obtain ⟨x, rfl⟩ := open_line hl hy
      exact ⟨x :: l, by rw [List.flatten_cons, e1, List.flatMap_cons], by simp [e2]⟩
  obtain ⟨l, e1, e2⟩ := hb css h2
  exact ⟨l, U, by unfold Lns; rw [← e1, e2]; exact h1⟩
end
end Go.Proofs.YtbbfgbkbdhghbaaGreatDoor
