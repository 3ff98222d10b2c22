/-
  lines.right and lines.Check over a view in memory.
-/
import Derived.Test.YtbbfgbkbdhghbaaGreatDoorChart2
import Derived.Test.YtbbfgbkbdhghbaaGreatDoorOpen
set_option linter.unusedVariables false
set_option linter.unusedSimpArgs false
namespace Go.Proofs.YtbbfgbkbdhghbaaGreatDoor
open Go.RowKit
variable {w : World} {V : VW} {n : Nat} {was now : Tbl} {U : TypeId}

/-- a line: fund, object, node, amount -/
abbrev Ln : Type := Int × Int × Int × Int
def lnC (x : Ln) : List Value := [.int .i64 x.1, .int .i64 x.2.1, .int .i64 x.2.2.1, .int .i64 x.2.2.2]
def lnV (x : Ln) : Value := .agg #[.int .i64 x.1, .int .i64 x.2.1, .int .i64 x.2.2.1, .int .i64 x.2.2.2]
theorem lnC_len (x : Ln) : (lnC x).length = 4 := rfl
/-- lines that are read -/
def Lns (w : World) (U : TypeId) (v : Value) (l : List Ln) : Prop := Sl w U v l.length (l.flatMap lnC)
theorem Lns.then {w w' : World} {v : Value} {l : List Ln} (h : Lns w U v l) (e : Ext [] w w') : Lns w' U v l := Sl.then h e
theorem Lns.at {b off m c : Nat} {l : List Ln} (h : Lns w U (.slice (some ⟨b, off, none⟩) m c) l) {i : Nat} (hi : i < l.length) :
    w.cell? ⟨b, off + i * 4, none⟩ = some (.int .i64 l[i].1) ∧ w.cell? ⟨b, off + i * 4 + 1, none⟩ = some (.int .i64 l[i].2.1) ∧ w.cell? ⟨b, off + i * 4 + 2, none⟩ = some (.int .i64 l[i].2.2.1) ∧ w.cell? ⟨b, off + i * 4 + 3, none⟩ = some (.int .i64 l[i].2.2.2) :=
  ⟨elem_enc (by decide) lnC_len h hi 0 (by decide) rfl, elem_enc (by decide) lnC_len h hi 1 (by decide) rfl, elem_enc (by decide) lnC_len h hi 2 (by decide) rfl, elem_enc (by decide) lnC_len h hi 3 (by decide) rfl⟩

def rightL (x : Ln) : Bool := !(x.2.2.2 == 0) && decide (x.2.2.2 ≤ 9007199254740992) && decide (-9007199254740992 ≤ x.2.2.2) && x.2.2.1 == 0 && !(x.2.1 == 1900) && !(x.2.1 == 2900)

theorem lines_right (x : Ln) (w : World) : Calls Tryz.prog 35 #[lnV x] w fun e w' => e = .returned (.bool (rightL x)) ∧ Ext [] w w' := by
  obtain ⟨f, o, nd, a⟩ := x
  simp only [lnV]
  have x0 := (Ext.refl [] w).alloc (.cells #[.int .i64 f, .int .i64 o, .int .i64 nd, .int .i64 a] 37)
  have hcs : (a = 0 ∨ a ≠ 0 ∧ 9007199254740992 < a ∨ a ≠ 0 ∧ ¬ 9007199254740992 < a ∧ a < -9007199254740992 ∨ (a ≠ 0 ∧ ¬ 9007199254740992 < a ∧ ¬ a < -9007199254740992) ∧ nd ≠ 0 ∨ (a ≠ 0 ∧ ¬ 9007199254740992 < a ∧ ¬ a < -9007199254740992) ∧ nd = 0 ∧ o = 1900 ∨ (a ≠ 0 ∧ ¬ 9007199254740992 < a ∧ ¬ a < -9007199254740992) ∧ nd = 0 ∧ o = 2900) ∧ rightL (f, o, nd, a) = false ∨
      ((a ≠ 0 ∧ ¬ 9007199254740992 < a ∧ ¬ a < -9007199254740992) ∧ nd = 0 ∧ o ≠ 1900 ∧ o ≠ 2900) ∧ rightL (f, o, nd, a) = true := by
    simp only [rightL]
    by_cases h1 : a = 0
    · simp [h1]
    by_cases h2 : 9007199254740992 < a
    · left; simp [h1, h2]; omega
    by_cases h3 : a < -9007199254740992
    · left; simp [h1, h2, h3]; omega
    by_cases h4 : nd = 0
    · by_cases h5 : o = 1900
      · left; simp [h1, h2, h3, h4, h5]
      · by_cases h6 : o = 2900
        · left; simp [h1, h2, h3, h4, h6]
        · right; simp [h1, h2, h3, h4, h5, h6]; omega
    · left; simp [h1, h2, h3, h4]
  rcases hcs with ⟨h, he⟩ | ⟨⟨⟨h1, h2, h3⟩, h4, h5, h6⟩, he⟩
  · have HE := Lib.hid he
    clear he
    rcases h with h1 | ⟨h1, h2⟩ | ⟨h1, h2, h3⟩ | ⟨⟨h1, h2, h3⟩, h4⟩ | ⟨⟨h1, h2, h3⟩, h4, h5⟩ | ⟨⟨h1, h2, h3⟩, h4, h5⟩
    all_goals
      try subst h1
      try subst h4
      try subst h5
      go_enter Tryz.func35, Tryz.ntmps35
      go_wp2_with fail
      go_ret
      exact ⟨ret_bool HE.out.symm, x0⟩
  · have HE := Lib.hid he
    clear he
    subst h4
    go_enter Tryz.func35, Tryz.ntmps35
    go_wp2_with fail
    go_ret
    exact ⟨ret_bool HE.out.symm, x0⟩

def hasL (now : Tbl) (x : Ln) : Bool := (tget now (key 70 [x.1])).isSome && (fixedO x.2.1 || (tget now (key 79 [x.2.1])).isSome)
def sumA (l : List Ln) : Int := (l.map (·.2.2.2)).sum
theorem sumA_snoc (l : List Ln) (x : Ln) : sumA (l ++ [x]) = sumA l + x.2.2.2 := by simp [sumA]
def checkL (now : Tbl) (l : List Ln) : Int := if l.length < 2 ∨ 6 < l.length then 1 else if l.all rightL = false then 1 else if l.all (hasL now) = false then 7 else if sumA l = 0 then 0 else 10

theorem lines_Check (h : IsView w V n was now) {v : Value} {l : List Ln} (hl : Lns w U v l) :
    Calls Tryz.prog 11 #[.pointer (some ⟨V.s, 0, none⟩), v] w fun e w' => e = .returned (.int .i64 (checkL now l)) ∧ Ext [] w w' := by
  obtain ⟨p, c, rfl, g1, g2⟩ := Sl.shape hl
  by_cases hlen : l.length < 2 ∨ 6 < l.length
  · have HE := Lib.hid (show checkL now l = 1 by rw [checkL, if_pos hlen])
    rcases hlen with h1 | h1
    · have h1' : (l.length : Int) < 2 := by omega
      go_enter Tryz.func11, Tryz.ntmps11
      go_wp2_with fail
      go_ret
      exact ⟨ret_int HE.out.symm, Ext.refl _ _⟩
    · have h1' : ¬ (l.length : Int) < 2 := by omega
      have h2' : (6 : Int) < (l.length : Int) := by omega
      go_enter Tryz.func11, Tryz.ntmps11
      go_wp2_with fail
      go_ret
      exact ⟨ret_int HE.out.symm, Ext.refl _ _⟩
  · have h1' : ¬ (l.length : Int) < 2 := by omega
    have h2' : ¬ (6 : Int) < (l.length : Int) := by omega
    go_enter Tryz.func11, Tryz.ntmps11
    go_wp2_with fail
    have hsum : ∀ i, i ≤ 6 → i ≤ l.length → (l.take i).all rightL = true → -((i : Int) * 9007199254740992) ≤ sumA (l.take i) ∧ sumA (l.take i) ≤ (i : Int) * 9007199254740992 := by
      intro i
      induction i with
      | zero => intro _ _ _; simp [sumA]
      | succ i ih =>
        intro h6 hle hall
        have hlt : i < l.length := by omega
        rw [List.take_succ_eq_append_getElem hlt] at hall ⊢
        simp only [List.all_append, Bool.and_eq_true] at hall
        have ih := ih (by omega) (by omega) hall.1
        have hr : rightL l[i] = true := by simpa using hall.2
        simp only [rightL, Bool.and_eq_true, decide_eq_true_eq] at hr
        rw [sumA_snoc]
        omega
    go_loopw [5, 22] (fun t s wr => ∃ i : Nat, i ≤ l.length ∧ s = .int .i64 i ∧ (l.take i).all rightL = true ∧ t = .int .i64 (sumA (l.take i)) ∧ Ext [] w wr) (fun _ s _ => l.length - (intOf s).toNat)
    case atStart => exact ⟨0, Nat.zero_le _, rfl, rfl, rfl, Ext.refl _ _⟩
    case round =>
      obtain ⟨i, hi, rfl, hall, rfl, hx⟩ := hrel
      by_cases hlt : i < l.length
      · obtain ⟨b, off, c', hpp, _⟩ := Sl.at hl (by omega)
        injection hpp with hpp _ hc'
        subst hpp; subst hc'
        obtain ⟨f1, f2, f3, f4⟩ := (hl.then hx).at hlt
        have hT := List.take_succ_eq_append_getElem hlt
        have hR := fun W => lines_right l[i] W
        have hS := hsum i (by omega) hi hall
        have hS1 := hsum (i + 1) (by omega) (by omega)
        rw [hT] at hS1
        have e := sumA_snoc (l.take i) l[i]
        rw [e] at hS1
        have HT := Lib.hid hT
        have HS := Lib.hid e
        have HA := Lib.hid hall
        obtain ⟨hS1a, hS1b⟩ := hS
        simp only [lnV] at hR
        cases hq : rightL l[i] with
        | false =>
          rw [hq] at hR
          have HE := Lib.hid (show checkL now l = 1 by
            rw [checkL, if_neg hlen, if_pos]
            rw [List.all_eq_false]
            exact ⟨_, List.getElem_mem hlt, by simp [hq]⟩)
          clear hq hT e hS1 hall hsum
          go_wp2_with (go_at_call 35; refine (hR _).mono ?_; rintro e w2 ⟨rfl, x2⟩)
          go_ret
          exact ⟨ret_int HE.out.symm, (hx.alloc _).then x2⟩
        | true =>
          rw [hq] at hR
          have hS2 := hS1 (by rw [List.all_append, hall]; simp [hq])
          obtain ⟨hS2a, hS2b⟩ := hS2
          have HQ := Lib.hid hq
          clear hq hT e hS1 hall hsum
          have hal := heap_alloc_new wr (.cells #[.int .i64 l[i].1, .int .i64 l[i].2.1, .int .i64 l[i].2.2.1, .int .i64 l[i].2.2.2] 37)
          go_wp2_with (go_at_call 35; refine (hR _).mono ?_; rintro e w2 ⟨rfl, x2⟩; have e3 := cell_of (off := 3) (x2.at hal (by simp)) rfl)
          go_roundw
          case rel => exact ⟨i + 1, by omega, by go_num, by rw [HT.out, List.all_append, HA.out]; simp [HQ.out], by rw [HT.out, HS.out], (hx.alloc _).then x2⟩
          case measure => simp [intOf]; omega
      · have e : i = l.length := by omega
        subst e
        rw [List.take_length] at hall
        simp only [List.take_length]
        go_wp2_with fail
        have HAl := Lib.hid hall
        clear hall hsum
        have h0 := hx
        clear hx
        go_loopw [36] (fun s wr => ∃ i : Nat, i ≤ l.length ∧ s = .int .i64 i ∧ (l.take i).all (hasL now) = true ∧ Ext [] w wr) (fun s _ => l.length - (intOf s).toNat)
        case atStart => exact ⟨0, Nat.zero_le _, rfl, rfl, h0⟩
        case round =>
          obtain ⟨i, hi, rfl, hal, hx⟩ := hrel
          by_cases hlt : i < l.length
          · obtain ⟨b, off, c', hpp, _⟩ := Sl.at hl (by omega)
            injection hpp with hpp _ hc'
            subst hpp; subst hc'
            obtain ⟨f1, f2, f3, f4⟩ := (hl.then hx).at hlt
            have HT := Lib.hid (List.take_succ_eq_append_getElem hlt)
            have HA := Lib.hid hal
            clear hal
            have hy := hx.alloc (.cells #[.int .i64 l[i].1, .int .i64 l[i].2.1, .int .i64 l[i].2.2.1, .int .i64 l[i].2.2.2] 37)
            have hcell := heap_alloc_new wr (.cells #[.int .i64 l[i].1, .int .i64 l[i].2.1, .int .i64 l[i].2.2.1, .int .i64 l[i].2.2.2] 37)
            have hF := chart_Fund (h.then hy) l[i].1
            cases hq : (tget now (key 70 [l[i].1])).isSome with
            | false =>
              rw [hq] at hF
              have HE := Lib.hid (show checkL now l = 7 by
                rw [checkL, if_neg hlen, HAl.out, if_neg (by simp), if_pos]
                rw [List.all_eq_false]
                exact ⟨_, List.getElem_mem hlt, by simp [hasL, hq]⟩)
              clear hq
              go_wp2_with (go_at_call 25; refine hF.mono ?_; rintro e w2 ⟨rfl, x2⟩)
              go_ret
              exact ⟨ret_int HE.out.symm, hy.then x2⟩
            | true =>
              rw [hq] at hF
              have HQ := Lib.hid hq
              clear hq
              cases hq : (fixedO l[i].2.1 || (tget now (key 79 [l[i].2.1])).isSome) with
              | false =>
                have HE := Lib.hid (show checkL now l = 7 by
                  rw [checkL, if_neg hlen, HAl.out, if_neg (by simp), if_pos]
                  rw [List.all_eq_false]
                  exact ⟨_, List.getElem_mem hlt, by simp only [hasL, hq]; simp⟩)
                have HQ2 := Lib.hid hq
                clear hq
                go_wp2_with (first
                  | (go_at_call 25; refine hF.mono ?_; rintro e w2 ⟨rfl, x2⟩; have e3 := cell_of (off := 1) (x2.at hcell (by simp)) rfl)
                  | (go_at_call 36; refine (chart_Object (h.then (hy.then x2)) l[i].2.1).mono ?_; rintro e w3 ⟨rfl, x3⟩; rw [HQ2.out]))
                go_ret
                exact ⟨ret_int HE.out.symm, (hy.then x2).then x3⟩
              | true =>
                have HQ2 := Lib.hid hq
                clear hq
                go_wp2_with (first
                  | (go_at_call 25; refine hF.mono ?_; rintro e w2 ⟨rfl, x2⟩; have e3 := cell_of (off := 1) (x2.at hcell (by simp)) rfl)
                  | (go_at_call 36; refine (chart_Object (h.then (hy.then x2)) l[i].2.1).mono ?_; rintro e w3 ⟨rfl, x3⟩; rw [HQ2.out]))
                go_roundw
                case rel => exact ⟨i + 1, by omega, by go_num, by rw [HT.out, List.all_append, HA.out]; simp only [List.all_cons, List.all_nil, hasL, HQ.out, HQ2.out]; rfl, (hy.then x2).then x3⟩
                case measure => simp [intOf]; omega
          · have e : i = l.length := by omega
            subst e
            rw [List.take_length] at hal
            have HA := Lib.hid hal
            clear hal
            by_cases hz : sumA l = 0
            · have HE := Lib.hid (show checkL now l = 0 by rw [checkL, if_neg hlen, HAl.out, HA.out]; simp [hz])
              have hz' : (sumA l != 0) = false := by simp [hz]
              clear hz
              go_wp2_with fail
              go_ret
              exact ⟨ret_int HE.out.symm, hx⟩
            · have HE := Lib.hid (show checkL now l = 10 by rw [checkL, if_neg hlen, HAl.out, HA.out]; simp [hz])
              have hz' : (sumA l != 0) = true := by simp [hz]
              clear hz
              go_wp2_with fail
              go_ret
              exact ⟨ret_int HE.out.symm, hx⟩
end Go.Proofs.YtbbfgbkbdhghbaaGreatDoor
