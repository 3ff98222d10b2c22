/-
  code: Fund, Object, Fixed; the document's; chart.Name.
-/
import Derived.Test.YtbbfgbkbdhghbaaGreatDoorChanges
set_option linter.unusedVariables false
set_option linter.unusedSimpArgs false
namespace Go.Proofs.YtbbfgbkbdhghbaaGreatDoor
open Go.RowKit
variable {U : TypeId}

theorem code_within (n lo hi : Int) (w : World) : Calls Tryz.prog 44 #[.int .i64 n, .int .i64 lo, .int .i64 hi] w fun e w' => e = .returned (.bool (decide (lo ≤ n) && decide (n ≤ hi))) ∧ w = w' := by
  by_cases h1 : lo ≤ n
  · go_enter Tryz.func44, Tryz.ntmps44
    go_wp2_with fail
    go_ret
    exact ⟨ret_bool (by simp [h1]), rfl⟩
  · go_enter Tryz.func44, Tryz.ntmps44
    go_wp2_with fail
    go_ret
    exact ⟨ret_bool (by simp; omega), rfl⟩

def fundOk (n : Int) : Bool := decide (100 ≤ n) && decide (n ≤ 999)
def objectOk (n : Int) : Bool := decide (1000 ≤ n) && decide (n ≤ 5999)
def fixedO (n : Int) : Bool := n == 1010 || n == 1900 || n == 2900 || n == 3000
theorem code_Fund (n : Int) (w : World) : Calls Tryz.prog 23 #[.int .i64 n] w fun e w' => e = .returned (.bool (fundOk n)) ∧ w = w' := by
  go_enter Tryz.func23, Tryz.ntmps23
  go_wp2_with (go_at_call 44; refine (code_within _ _ _ _).mono ?_; rintro e w' ⟨rfl, rfl⟩)
  go_ret
  exact ⟨rfl, rfl⟩
theorem ref_codeFund (n : Int) (w : World) : Calls Tryz.prog 29 #[.int .i64 n] w fun e w' => e = .returned (.bool (fundOk n)) ∧ w = w' := by
  by_cases h1 : 100 ≤ n
  · have HE := Lib.hid (show fundOk n = decide (n ≤ 999) by simp [fundOk, h1])
    go_enter Tryz.func29, Tryz.ntmps29
    go_wp2_with fail
    go_ret
    exact ⟨ret_bool HE.out.symm, rfl⟩
  · have HE := Lib.hid (show fundOk n = false by simp [fundOk, h1])
    go_enter Tryz.func29, Tryz.ntmps29
    go_wp2_with fail
    go_ret
    exact ⟨ret_bool HE.out.symm, rfl⟩
theorem fixed_cases (n : Int) : (n = 1010 ∨ n = 1900 ∨ n = 2900 ∨ n = 3000) ∧ fixedO n = true ∨ (n ≠ 1010 ∧ n ≠ 1900 ∧ n ≠ 2900 ∧ n ≠ 3000) ∧ fixedO n = false := by
  unfold fixedO
  by_cases h1 : n = 1010
  · simp [h1]
  · by_cases h2 : n = 1900
    · simp [h2]
    · by_cases h3 : n = 2900
      · simp [h3]
      · by_cases h4 : n = 3000
        · simp [h4]
        · simp [h1, h2, h3, h4]
theorem code_Fixed (n : Int) (w : World) : Calls Tryz.prog 57 #[.int .i64 n] w fun e w' => e = .returned (.bool (fixedO n)) ∧ w = w' := by
  rcases fixed_cases n with ⟨h, he⟩ | ⟨⟨h1, h2, h3, h4⟩, he⟩
  · rcases h with rfl | rfl | rfl | rfl <;> (go_enter Tryz.func57, Tryz.ntmps57; go_wp2_with fail; go_ret; exact ⟨rfl, rfl⟩)
  · have HE := Lib.hid he
    clear he
    go_enter Tryz.func57, Tryz.ntmps57
    go_wp2_with fail
    go_ret
    exact ⟨ret_bool HE.out.symm, rfl⟩
theorem ref_codeFixed (n : Int) (w : World) : Calls Tryz.prog 58 #[.int .i64 n] w fun e w' => e = .returned (.bool (fixedO n)) ∧ w = w' := by
  rcases fixed_cases n with ⟨h, he⟩ | ⟨⟨h1, h2, h3, h4⟩, he⟩
  · rcases h with rfl | rfl | rfl | rfl <;> (go_enter Tryz.func58, Tryz.ntmps58; go_wp2_with fail; go_ret; exact ⟨rfl, rfl⟩)
  · have HE := Lib.hid he
    have e1 : (n == 1010) = false := by simpa using h1
    have e2 : (n == 1900) = false := by simpa using h2
    have e3 : (n == 2900) = false := by simpa using h3
    have e4 : (n == 3000) = false := by simpa using h4
    clear he
    go_enter Tryz.func58, Tryz.ntmps58
    go_wp2_with fail
    go_ret
    exact ⟨ret_bool HE.out.symm, rfl⟩

/-! ### names -/
def badC (c : UInt8) : Bool := decide (c.toNat < 32) || decide (126 < c.toNat)
def nameOk (l : Bytes) : Bool := decide (1 ≤ l.length) && decide (l.length ≤ 20) && !l.any badC
theorem name_1 (c : UInt8) (w : World) : Calls Tryz.prog 46 #[.int .u8 (c.toNat : Int)] w fun e w' => e = .returned (.bool (badC c)) ∧ w = w' := by
  by_cases h : c.toNat < 32
  · have HE := Lib.hid (show badC c = true by simp [badC, h])
    have h' : (c.toNat : Int) < 32 := by omega
    go_enter Tryz.func46, Tryz.ntmps46
    go_wp2_with fail
    go_ret
    exact ⟨ret_bool HE.out.symm, rfl⟩
  · have HE := Lib.hid (show badC c = decide ((126 : Int) < (c.toNat : Int)) by simp [badC, h]; omega)
    have h' : ¬ (c.toNat : Int) < 32 := by omega
    go_enter Tryz.func46, Tryz.ntmps46
    go_wp2_with fail
    go_ret
    exact ⟨ret_bool (by rw [HE.out]), rfl⟩

theorem name_Index {w : World} {v : Value} {l : Bytes} (hv : Bs U w v l) :
    Calls Tryz.prog 62 #[v, .func (.func 46) #[] #[]] w fun e w' => (∃ i : Int, e = .returned (.int .i64 i) ∧ (i < 0 ∧ l.any badC = false ∨ 0 ≤ i ∧ l.any badC = true)) ∧ w = w' := by
  obtain ⟨p, c, rfl, hc1, hc2⟩ := hv.shape
  go_enter Tryz.func62, Tryz.ntmps62
  go_wp2_with fail
  go_loopw [8] (fun s wr => ∃ i : Nat, i ≤ l.length ∧ s = .int .i64 i ∧ (l.take i).any badC = false ∧ wr = w) (fun s _ => l.length - (intOf s).toNat)
  case atStart => exact ⟨0, Nat.zero_le _, rfl, rfl, rfl⟩
  case round =>
    obtain ⟨i, hi, rfl, hall, rfl⟩ := hrel
    have HA := Lib.hid hall
    clear hall
    by_cases hlt : i < l.length
    · obtain ⟨b, off, c', hpp, hrow⟩ := hv.sl.at (by omega)
      injection hpp with hpp _ hc'
      subst hpp; subst hc'
      have hcell := hrow.cell (i := i) (v := .int .u8 ((l[i]).toNat : Int)) (by rw [List.getElem?_map, List.getElem?_eq_getElem hlt]; rfl)
      have hT := List.take_succ_eq_append_getElem hlt
      have hS := fun W => name_1 l[i] W
      have hM : l[i] ∈ l := List.getElem_mem hlt
      generalize l[i] = x at *
      cases hq : badC x with
      | true =>
        rw [hq] at hS
        have HQ := Lib.hid hq
        clear hq hT
        go_wp2_with (go_at_call 46; refine (hS _).mono ?_; rintro e w2 ⟨rfl, rfl⟩)
        go_ret
        exact ⟨⟨_, rfl, .inr ⟨by omega, List.any_eq_true.2 ⟨x, hM, HQ.out⟩⟩⟩, rfl⟩
      | false =>
        rw [hq] at hS
        have HQ := Lib.hid (show (l.take (i + 1)).any badC = false by rw [hT, List.any_append, HA.out]; simp [hq])
        clear hq hT
        go_wp2_with (go_at_call 46; refine (hS _).mono ?_; rintro e w2 ⟨rfl, rfl⟩)
        exact ⟨⟨i + 1, by omega, by go_num, HQ.out, trivial⟩, by simp [intOf]; omega⟩
    · have e : i = l.length := by omega
      subst e
      go_wp2_with fail
      go_ret
      have := HA.out
      rw [List.take_length] at this
      exact ⟨⟨_, rfl, .inl ⟨by decide, this⟩⟩, rfl⟩

theorem name_Contains {w : World} {v : Value} {l : Bytes} (hv : Bs U w v l) :
    Calls Tryz.prog 45 #[v, .func (.func 46) #[] #[]] w fun e w' => e = .returned (.bool (l.any badC)) ∧ w = w' := by
  obtain ⟨p, c, rfl, hc1, hc2⟩ := hv.shape
  have hI := name_Index hv
  cases hq : l.any badC with
  | true =>
    go_enter Tryz.func45, Tryz.ntmps45
    go_wp2_with (go_at_call 62; refine hI.mono ?_; rintro e w' ⟨⟨i, rfl, hi⟩, rfl⟩; have hi' : 0 ≤ i := by (rcases hi with h | h; (· rw [hq] at h; simp at h); exact h.1))
    go_ret
    exact ⟨ret_bool (by simp [hi']), rfl⟩
  | false =>
    go_enter Tryz.func45, Tryz.ntmps45
    go_wp2_with (go_at_call 62; refine hI.mono ?_; rintro e w' ⟨⟨i, rfl, hi⟩, rfl⟩; have hi' : i < 0 := by (rcases hi with h | h; (· exact h.1); (rw [hq] at h; simp at h)))
    go_ret
    exact ⟨ret_bool (by simp; omega), rfl⟩

theorem chart_Name (l : Bytes) (w : World) (hl : l.length ≤ 1048576) :
    Calls Tryz.prog 24 #[.string (str l)] w fun e w' => e = .returned (.bool (nameOk l)) ∧ Ext [] w w' := by
  by_cases hl0 : l = []
  · subst hl0
    have e0 : str ([] : Bytes) = ⟨#[]⟩ := rfl
    rw [e0]
    go_enter Tryz.func24, Tryz.ntmps24
    go_wp2_with fail
    go_ret
    exact ⟨rfl, Ext.refl _ _⟩
  · have hE : List.isEmpty l = false := by cases l <;> simp_all
    by_cases h20 : l.length ≤ 20
    · have HE := Lib.hid (show nameOk l = !l.any badC by (have : 1 ≤ l.length := List.length_pos_iff.2 hl0); simp only [nameOk, decide_eq_true h20, decide_eq_true this]; simp)
      have h20' : ¬ (20 : Int) < ((l.length : Nat) : Int) := by omega
      have hcv := run_cvb l
      have hbs := cv_bs l w (by omega)
      have hx := cv_ext l w
      have hC := name_Contains hbs
      clear hbs
      go_enter Tryz.func24, Tryz.ntmps24
      go_wp2_with (go_at_call 45; refine hC.mono ?_; rintro e w' ⟨rfl, rfl⟩)
      go_ret
      exact ⟨ret_bool (by rw [HE.out]), hx⟩
    · have HE := Lib.hid (show nameOk l = false by simp only [nameOk, decide_eq_false h20]; simp)
      have h20' : (20 : Int) < ((l.length : Nat) : Int) := by omega
      go_enter Tryz.func24, Tryz.ntmps24
      go_wp2_with fail
      go_ret
      exact ⟨ret_bool HE.out.symm, Ext.refl _ _⟩
end Go.Proofs.YtbbfgbkbdhghbaaGreatDoor
