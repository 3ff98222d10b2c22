/-
  lines.Equal: whether all funds have nothing.
-/
import Derived.Test.YtbbfgbkbdhghbaaGreatDoorLinesF
set_option linter.unusedVariables false
set_option linter.unusedSimpArgs false
namespace Go.Proofs.YtbbfgbkbdhghbaaGreatDoor
open Go.RowKit
variable {w : World} {U : TypeId}

theorem equal_1 (x : Ln) (W : World) : Calls Tryz.prog 42 #[lnV x] W fun e w' => e = .returned (.bool (x.2.2.2 != 0)) ∧ Ext [] W w' := by
  simp only [lnV]
  go_enter Tryz.func42, Tryz.ntmps42
  go_wp2_with fail
  go_ret
  exact ⟨rfl, (Ext.refl [] W).alloc _⟩

def badA (x : Ln) : Bool := x.2.2.2 != 0
theorem equal_Index {v : Value} {l : List Ln} (hl : Lns w U v l) :
    Calls Tryz.prog 61 #[v, .func (.func 42) #[] #[]] w fun e w' => (∃ i : Int, e = .returned (.int .i64 i) ∧ (i < 0 ∧ l.any badA = false ∨ 0 ≤ i ∧ l.any badA = true)) ∧ Ext [] w w' := by
  obtain ⟨p, c, rfl, g1, g2⟩ := Sl.shape hl
  go_enter Tryz.func61, Tryz.ntmps61
  go_wp2_with fail
  go_loopw [8] (fun s wr => ∃ i : Nat, i ≤ l.length ∧ s = .int .i64 i ∧ (l.take i).any badA = false ∧ Ext [] w wr) (fun s _ => l.length - (intOf s).toNat)
  case atStart => exact ⟨0, Nat.zero_le _, rfl, rfl, Ext.refl _ _⟩
  case round =>
    obtain ⟨i, hi, rfl, hall, hx⟩ := hrel
    have HA := Lib.hid hall
    clear hall
    by_cases hlt : i < l.length
    · obtain ⟨b, off, c', hpp, _⟩ := Sl.at hl (by omega)
      injection hpp with hpp _ hc'
      subst hpp; subst hc'
      obtain ⟨f1, f2, f3, f4⟩ := (hl.then hx).at hlt
      have hT := List.take_succ_eq_append_getElem hlt
      have hS := fun W => equal_1 l[i] W
      have hM : l[i] ∈ l := List.getElem_mem hlt
      simp only [lnV] at hS
      generalize l[i] = x at *
      cases hq : (x.2.2.2 != 0) with
      | true =>
        rw [hq] at hS
        have HQ := Lib.hid hq
        clear hq hT
        go_wp2_with (go_at_call 42; refine (hS _).mono ?_; rintro e w2 ⟨rfl, x2⟩)
        go_ret
        exact ⟨⟨_, rfl, .inr ⟨by omega, List.any_eq_true.2 ⟨x, hM, HQ.out⟩⟩⟩, hx.then x2⟩
      | false =>
        rw [hq] at hS
        have HQ := Lib.hid (show (l.take (i + 1)).any badA = false by rw [hT, List.any_append, HA.out]; simp [badA, hq])
        clear hq hT
        go_wp2_with (go_at_call 42; refine (hS _).mono ?_; rintro e w2 ⟨rfl, x2⟩)
        exact ⟨⟨i + 1, by omega, by go_num, HQ.out, hx.then x2⟩, by simp [intOf]; omega⟩
    · have e : i = l.length := by omega
      subst e
      go_wp2_with fail
      go_ret
      have := HA.out
      rw [List.take_length] at this
      exact ⟨⟨_, rfl, .inl ⟨by decide, this⟩⟩, hx⟩

theorem equal_Contains {v : Value} {l : List Ln} (hv : Lns w U v l) :
    Calls Tryz.prog 41 #[v, .func (.func 42) #[] #[]] w fun e w' => e = .returned (.bool (l.any badA)) ∧ Ext [] w w' := by
  obtain ⟨p, c, rfl, hc1, hc2⟩ := Sl.shape hv
  have hI := equal_Index hv
  cases hq : l.any badA with
  | true =>
    go_enter Tryz.func41, Tryz.ntmps41
    go_wp2_with (go_at_call 61; refine hI.mono ?_; rintro e w' ⟨⟨i, rfl, hi⟩, x⟩; have hi' : 0 ≤ i := by (rcases hi with h | h; (· rw [hq] at h; simp at h); exact h.1))
    go_ret
    exact ⟨ret_bool (by simp [hi']), x⟩
  | false =>
    go_enter Tryz.func41, Tryz.ntmps41
    go_wp2_with (go_at_call 61; refine hI.mono ?_; rintro e w' ⟨⟨i, rfl, hi⟩, x⟩; have hi' : i < 0 := by (rcases hi with h | h; (· exact h.1); (rw [hq] at h; simp at h)))
    go_ret
    exact ⟨ret_bool (by simp; omega), x⟩

theorem lines_Equal {v : Value} {l : List Ln} (hl : Lns w U v l) (hn : l.length ≤ 1048576) :
    Calls Tryz.prog 16 #[v] w fun e w' => e = .returned (.bool (!(fundsL l).any badA)) ∧ Ext [] w w' := by
  obtain ⟨p, c, rfl, hc1, hc2⟩ := Sl.shape hl
  have hF := lines_Funds hl hn
  go_enter Tryz.func16, Tryz.ntmps16
  go_wp2_with (first
    | (go_at_call 14; refine hF.mono ?_; rintro e w1 ⟨r1, rfl, o1, x1⟩)
    | (go_at_call 41; refine (equal_Contains o1.rd).mono ?_; rintro e w2 ⟨rfl, x2⟩))
  go_ret
  exact ⟨ret_bool (by simp), x1.then x2⟩
end Go.Proofs.YtbbfgbkbdhghbaaGreatDoor
