/-
  exchequerlaw14.ViewLives answers true for every list of calls that reads; and such a list, opened.
-/
import Derived.Test.YthifoaclmfbhdaaGreatDoorLawLives
set_option linter.unusedVariables false
set_option linter.unusedSimpArgs false
namespace Go.Proofs.YthifoaclmfbhdaaGreatDoor
open Go.RowKit Go.ChangeShapes Go.WideShapes

theorem law_ViewLives (w : World) {lv : Value} {css : List (List Value)} {U : TypeId} (hl : Sl w U lv css.length css.flatten) (hd : ∀ cs ∈ css, DoH w cs) :
    Calls Tryz.prog 4 #[lv] w fun e w' => e = .returned (.bool true) ∧ Ext [] w w' := by
  obtain ⟨lp, lc, rfl, g1, g2⟩ := hl.shape
  go_enter Tryz.func4, Tryz.ntmps4
  go_wp2_with fail
  refine (view_New w).mono ?_
  rintro e w1 ⟨V, rfl, h1, x1, hV⟩
  dsimp only
  go_wp2_with fail
  refine (ref_New (B := w.heap.size) w1 x1.size).mono ?_
  rintro e w2 ⟨s, rfl, h2, x2⟩
  have h1' := h1.then x2
  dsimp only
  go_wp2_with (first
    | (go_at_call 16; refine (law14_play h1' h2 (by decide) hV (x1.then x2) hl hd).mono ?_; rintro e w3 ⟨rfl, x3⟩)
    | (go_at_call 13; refine (view_awake w3).mono ?_; rintro e w4 ⟨rfl, x4⟩))
  go_ret
  exact ⟨rfl, x3.then x4⟩

theorem okWide_slice {P : Program} {w : World} {r : Reach} {base : Nat} {t e : TypeId} {v : Value} (ht : P.underlying t = some (.slice e)) (h : Value.okWide P w r base t v) : v.cells.toList = [v] := by
  unfold Value.okWide at h
  rw [ht] at h
  simp only at h
  unfold Cell.okWide at h
  rw [ht] at h
  simp only at h
  unfold Cell.ok at h
  rw [ht] at h
  cases v <;> simp_all [Value.cells]

section
variable {H : Type} {enc : TypeId × Value → H} {w : World} {base : Nat} {spare : Nat → Bool} {held : Bool}
theorem len3 {α : Type} {l : List α} (h : l.length = 3) : ∃ a b c, l = [a, b, c] := by
  match l, h with
  | [a, b, c], _ => exact ⟨a, b, c, rfl⟩
theorem open_do {f : Nat} {cs : List Value} {y : DataW H × List MemPlace} (hl : cs.length = 3) (h : DataW.trod enc Tryz.prog w base spare held f 70 cs = some y) : DoH w cs := by
  have c1 : Tryz.prog.cellsOf 3 = 1 := by kernel_rfl
  have c2 : Tryz.prog.cellsOf 22 = 1 := by kernel_rfl
  have c3 : Tryz.prog.cellsOf 5 = 1 := by kernel_rfl
  obtain ⟨n, hf⟩ := open_fields Tryz.underlying70 h
  obtain ⟨a, b, c, rfl⟩ := len3 hl
  obtain ⟨_, h0⟩ := open_field1 hf 0 rfl c1 rfl
  obtain ⟨_, h1⟩ := open_field1 hf 1 rfl c2 rfl
  obtain ⟨_, h2⟩ := open_field1 hf 2 rfl c2 rfl
  obtain ⟨op, rfl, hop⟩ := open_int1 Tryz.underlying3 h0
  obtain ⟨k, U1, hk, _⟩ := open_bytes Tryz.underlying22 Tryz.underlying5 c3 h1
  obtain ⟨v, U2, hv, _⟩ := open_bytes Tryz.underlying22 Tryz.underlying5 c3 h2
  exact ⟨op, b, c, k, v, U1, U2, rfl, hop, hk, hv⟩
theorem open_dos {v : Value} {d : DataW H} {p : List MemPlace} (hv : v.cells.toList = [v]) (h : DataW.Trod enc Tryz.prog w base spare held 43 v d p) : ∃ (css : List (List Value)) (U : TypeId), Sl w U v css.length css.flatten ∧ ∀ cs ∈ css, DoH w cs := by
  obtain ⟨f, h⟩ := h
  rw [hv] at h
  obtain ⟨css, U, f, _, h1, h2⟩ := open_rows 3 Tryz.underlying43 (by kernel_rfl) (by decide) h
  exact ⟨css, U, h1, fun cs hcs => by obtain ⟨hl, y, hy⟩ := h2 cs hcs; exact open_do hl hy⟩
end
end Go.Proofs.YthifoaclmfbhdaaGreatDoor
