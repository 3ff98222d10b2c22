/-
  slices.SortFunc over lines, by their funds; cmp.Compare at ints.
-/
import Derived.Test.YtbbfgbkbdhghbaaGreatDoorLines
import Derived.Test.YtbbfgbkbdhghbaaGreatDoorSortK
import Derived.Test.YtbbfgbkbdhghbaaGreatDoorShelfL
set_option linter.unusedVariables false
set_option linter.unusedSimpArgs false
namespace Go.Proofs.YtbbfgbkbdhghbaaGreatDoor
open Go.RowKit Go.Sort

def cmpI (a b : Int) : Int := if a < b then -1 else if b < a then 1 else 0
theorem cmp_isNaN (n : Int) (w : World) : Calls Tryz.prog 43 #[.int .i64 n] w fun e w' => e = .returned (.bool false) ∧ w = w' := by
  go_enter Tryz.func43, Tryz.ntmps43
  go_wp2_with fail
  go_ret
  exact ⟨ret_bool (by simp), rfl⟩
theorem cmp_Compare (a b : Int) (w : World) : Calls Tryz.prog 22 #[.int .i64 a, .int .i64 b] w fun e w' => e = .returned (.int .i64 (cmpI a b)) ∧ w = w' := by
  rcases Int.lt_trichotomy a b with h | h | h
  · have HE := Lib.hid (show cmpI a b = -1 by simp [cmpI, h])
    go_enter Tryz.func22, Tryz.ntmps22
    go_wp2_with (go_at_call 43; refine (cmp_isNaN _ _).mono ?_; rintro e w' ⟨rfl, rfl⟩)
    go_ret
    exact ⟨ret_int HE.out.symm, rfl⟩
  · have HE := Lib.hid (show cmpI a b = 0 by simp [cmpI, h])
    have h1 : ¬ a < b := by omega
    have h2 : ¬ b < a := by omega
    clear h
    go_enter Tryz.func22, Tryz.ntmps22
    go_wp2_with (go_at_call 43; refine (cmp_isNaN _ _).mono ?_; rintro e w' ⟨rfl, rfl⟩)
    go_ret
    exact ⟨ret_int HE.out.symm, rfl⟩
  · have HE := Lib.hid (show cmpI a b = 1 by have : ¬ a < b := by omega
                                             simp [cmpI, h, this])
    have h1 : ¬ a < b := by omega
    go_enter Tryz.func22, Tryz.ntmps22
    go_wp2_with (go_at_call 43; refine (cmp_isNaN _ _).mono ?_; rintro e w' ⟨rfl, rfl⟩)
    go_ret
    exact ⟨ret_int HE.out.symm, rfl⟩

def cmpL (x y : Ln) : Int := cmpI x.1 y.1
theorem ltL (x y : Ln) : ltOf cmpL x y = decide (x.1 < y.1) := by
  unfold ltOf cmpL cmpI
  by_cases h1 : x.1 < y.1
  · simp [h1]
  · by_cases h2 : y.1 < x.1 <;> simp [h1, h2]
theorem swoL : SWO (ltOf cmpL) where
  irrefl x := by rw [ltL]; simp
  trans x y z h1 h2 := by
    rw [ltL] at *
    simp only [decide_eq_true_eq] at *
    omega
  ntrans x y z h1 h2 := by
    rw [ltL] at *
    simp only [decide_eq_false_iff_not] at *
    omega
instance : Inhabited Ln := ⟨(0, 0, 0, 0)⟩

theorem funds_1 (x y : Ln) (W : World) :
    Calls Tryz.prog 40 #[lnV x, lnV y] W fun e w' => e = .returned (.int .i64 (cmpL x y)) ∧ ∃ os, w' = grow W os := by
  have hC := fun W => cmp_Compare x.1 y.1 W
  have HE := Lib.hid (show cmpL x y = cmpI x.1 y.1 from rfl)
  simp only [lnV]
  go_enter Tryz.func40, Tryz.ntmps40
  go_wp2_with (go_at_call 22; refine (hC _).mono ?_; rintro e w' ⟨rfl, rfl⟩)
  go_ret
  exact ⟨ret_int HE.out.symm, _, by rw [alloc_eq_grow, alloc_eq_grow, grow_grow]⟩

theorem row_line : TRow Tryz.prog 37 (.agg #[.int .i64 0, .int .i64 0, .int .i64 0, .int .i64 0]) 4 32 := ⟨by kernel_rfl, rfl⟩
/-- lines that one owns -/
def OwnL (base : Nat) (w : World) (v : Value) (l : List Ln) : Prop := w.ownsRow base 37 4 v l.length (l.flatMap lnC)
theorem OwnL.own {base : Nat} {w : World} {v : Value} {l : List Ln} (h : OwnL base w v l) : w.ownsRow base 37 4 v l.length (l.flatMap lnC) := h
theorem OwnL.rd {base : Nat} {w : World} {v : Value} {l : List Ln} (h : OwnL base w v l) : Lns w 37 v l := Sl.of_own h (by decide)
theorem OwnL.then {base : Nat} {w w' : World} {v : Value} {l : List Ln} (h : OwnL base w v l) (e : Ext [] w w') : OwnL base w' v l := own_then h e
theorem OwnL.snoc {base : Nat} {w' : World} {v : Value} {l : List Ln} {x : Ln} (h : w'.ownsRow base 37 4 v (l.length + 1) (l.flatMap lnC ++ lnC x)) : OwnL base w' v (l ++ [x]) := by
  unfold OwnL
  rw [List.length_append, List.flatMap_append]
  simpa using h

theorem lines_Sort {base : Nat} {w : World} {v : Value} {l : List Ln} (hv : OwnL base w v l) (hl : l.length ≤ 1099511627776) :
    Calls Tryz.prog 39 #[v, .func (.func 40) #[] #[]] w fun e w' => e = .returned (.tuple #[]) ∧ ∃ l', OwnL base w' v l' ∧ l'.Perm l ∧ l'.Pairwise (fun a b => ¬ b.1 < a.1) ∧ Ext v.ownBlock.toList w w' := by
  have ho := hv.own
  have ho' := ho
  obtain ⟨hlen, ⟨rfl, h0⟩ | ⟨g, cap, cur, rfl, hbg, hg, hnc, hcm, hcs, htake⟩⟩ := ho
  · have : l = [] := List.eq_nil_of_length_eq_zero h0
    subst this
    refine (AnyF.slices_SortFunc_none Tryz.sortLines none 0 _ w).mono ?_
    rintro e w' ⟨rfl, rfl⟩
    exact ⟨rfl, [], hv, List.Perm.refl _, List.Pairwise.nil, Ext.refl _ _⟩
  · have hgl : g < w.heap.size := (Array.getElem?_eq_some_iff.1 hg).1
    have hone : ∀ x : Ln, ∀ v ∈ lnC x, v.oneCell' = true := by
      intro x v hv
      simp [lnC] at hv
      rcases hv with rfl | rfl | rfl | rfl <;> rfl
    have hH := holdsK_own lnC_len (by decide) ho'
    have hsz : l.toArray.size < 4611686018427387904 := by simp; omega
    have eg : ∀ args w, (callFunc 40 args).run Tryz.prog w = .ok (.enter 40 args) w := enters_of Tryz.func40 (by kernel_rfl) rfl
    have hcmp : CmpLays Tryz.prog 40 #[] lnC 4 cmpL g 0 l.toArray.size w := by
      intro m os dk _ x y
      refine (funds_1 x y _).mono ?_
      rintro e w' ⟨rfl, os', rfl⟩
      exact ⟨rfl, 0, os', rfl⟩
    have hcon := AnyQ.slices_SortFunc Tryz.sortLines 4 Tryz.isAgg37 Tryz.sizeOf37 lnC lnC_len hone cmpL swoL 40 #[] g 0 cap l.toArray w eg hcmp hH hgl hsz
    rw [show l.toArray.size = l.length by simp] at hcon
    refine hcon.mono ?_
    rintro e w' ⟨rfl, d', n, os, hp, hsd, rfl⟩
    have hd' : d'.size = l.length := by rw [hp.1]; simp
    have hperm : d'.toList.Perm l := by
      have := hp.2.2
      rw [show d'.extract 0 l.length = d' by rw [← hd']; simp, show l.toArray.extract 0 l.length = l.toArray by simp] at this
      simpa using this
    have hown := own_sortK lnC_len (by decide) ho' d'.toList (by simp; rw [hd']) n os
    simp only [Array.toArray_toList] at hown
    have xx := ext_sortWorldK (enc := lnC) (k := 4) (m := n) hgl d' os
    refine ⟨rfl, d'.toList, ?_, hperm, ?_, xx⟩
    · unfold OwnL
      simpa [hd'] using hown
    · rw [List.pairwise_iff_getElem]
      intro i j hi hj hij
      have := hsd i j (Nat.zero_le _) hij (by simp at hj; omega)
      rw [ltL] at this
      simp only [decide_eq_false_iff_not] at this
      have gi : d'[i]! = d'.toList[i] := by simp at hi; simp [hi]
      have gj : d'[j]! = d'.toList[j] := by simp at hj; simp [hj]
      rw [gi, gj] at this
      exact this
end Go.Proofs.YtbbfgbkbdhghbaaGreatDoor
