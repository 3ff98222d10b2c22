/-
  slices.IsSortedFunc over lines, with the law's comparison.
-/
import Derived.Test.YtbbfgbkbdhghbaaGreatDoorLinesS
set_option linter.unusedVariables false
set_option linter.unusedSimpArgs false
namespace Go.Proofs.YtbbfgbkbdhghbaaGreatDoor
open Go.RowKit
variable {w : World} {U : TypeId}

theorem order_1 (x y : Ln) (W : World) : Calls Tryz.prog 21 #[lnV x, lnV y] W fun e w' => e = .returned (.int .i64 (cmpI x.1 y.1)) ∧ Ext [] W w' := by
  have hC := fun W => cmp_Compare x.1 y.1 W
  simp only [lnV]
  go_enter Tryz.func21, Tryz.ntmps21
  go_wp2_with (go_at_call 22; refine (hC _).mono ?_; rintro e w' ⟨rfl, rfl⟩)
  go_ret
  exact ⟨rfl, ((Ext.refl [] W).alloc _).alloc _⟩

theorem lines_IsSorted {v : Value} {l : List Ln} (hl : Lns w U v l) (hs : ∀ i (h : i + 1 < l.length), ¬ l[i + 1].1 < l[i].1) :
    Calls Tryz.prog 20 #[v, .func (.func 21) #[] #[]] w fun e w' => e = .returned (.bool true) ∧ Ext [] w w' := by
  obtain ⟨p, c, rfl, g1, g2⟩ := Sl.shape hl
  go_enter Tryz.func20, Tryz.ntmps20
  go_wp2_with fail
  go_loopw [5] (fun x wr => ∃ z : Int, x = .int .i64 z ∧ -1 ≤ z ∧ z ≤ (l.length : Int) - 1 ∧ Ext [] w wr) (fun x _ => (intOf x + 1).toNat)
  case atStart => exact ⟨_, rfl, by omega, by omega, Ext.refl _ _⟩
  case round =>
    obtain ⟨z, rfl, hz1, hz2, hx⟩ := hrel
    by_cases hz : 0 < z
    · obtain ⟨k, rfl⟩ : ∃ k : Nat, z = (k : Int) := ⟨z.toNat, by omega⟩
      obtain ⟨i, hki⟩ : ∃ i : Nat, (k : Int) - 1 = (i : Int) := ⟨k - 1, by omega⟩
      have hlt : k < l.length := by omega
      have hlt2 : i < l.length := by omega
      obtain ⟨b, off, c', hpp, _⟩ := Sl.at hl (by omega)
      injection hpp with hpp _ hc'
      subst hpp; subst hc'
      have hc : ¬ l[k].1 < l[i].1 := by
        have e : k = i + 1 := by omega
        subst e
        exact Int.not_lt.2 (hs i hlt)
      obtain ⟨f1, f2, f3, f4⟩ := (hl.then hx.drew).at hlt
      obtain ⟨g1, g2, g3, g4⟩ := (hl.then hx.drew).at hlt2
      have hO := fun W => order_1 l[k] l[i] W
      simp only [lnV] at hO
      generalize l[k] = x at *
      generalize l[i] = y at *
      have hn : ¬ cmpI x.1 y.1 < 0 := by
        unfold cmpI
        rw [if_neg (by omega)]
        split <;> omega
      generalize cmpI x.1 y.1 = r at *
      have q1 : (k : Int) < (l.length : Int) := by omega
      have q2 : (i : Int) < (l.length : Int) := by omega
      have hw : IntKind.i64.wrap (i : Int) = (i : Int) := by rw [IntKind.wrap_i64]; omega
      have hn2 : decide (r < 0) = false := decide_eq_false hn
      have hn3 : (0 : Int) ≤ r := by omega
      clear hs hc hn
      go_wp2_with fail
      go_region_held3 (fun W => W.cell? ⟨b, off + k * 4, none⟩ = some (.int .i64 x.1) ∧ W.cell? ⟨b, off + k * 4 + 1, none⟩ = some (.int .i64 x.2.1) ∧ W.cell? ⟨b, off + k * 4 + 2, none⟩ = some (.int .i64 x.2.2.1) ∧ W.cell? ⟨b, off + k * 4 + 3, none⟩ = some (.int .i64 x.2.2.2) ∧
          W.cell? ⟨b, off + i * 4, none⟩ = some (.int .i64 y.1) ∧ W.cell? ⟨b, off + i * 4 + 1, none⟩ = some (.int .i64 y.2.1) ∧ W.cell? ⟨b, off + i * 4 + 2, none⟩ = some (.int .i64 y.2.2.1) ∧ W.cell? ⟨b, off + i * 4 + 3, none⟩ = some (.int .i64 y.2.2.2))
        (first | exact ⟨f1, f2, f3, f4, g1, g2, g3, g4⟩ | exact ⟨x2.cell (by simp) f1, x2.cell (by simp) f2, x2.cell (by simp) f3, x2.cell (by simp) f4, x2.cell (by simp) g1, x2.cell (by simp) g2, x2.cell (by simp) g3, x2.cell (by simp) g4⟩) (first | (go_at_call 21; refine (hO _).mono ?_; rintro e w2 ⟨rfl, x2⟩))
      all_goals
        go_wp2_with fail
        exact ⟨⟨(i : Int), by go_num, by omega, by omega, hx.drew.then x2⟩, by simp [intOf]; omega⟩
    · go_wp2_with fail
      go_ret
      exact ⟨rfl, hx⟩

end Go.Proofs.YtbbfgbkbdhghbaaGreatDoor
