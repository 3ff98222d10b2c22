/-
  Funds have the same by lines in another order: a plain law.
-/
import Derived.Test.YtbbfgbkbdhghbaaGreatDoorLinesF
set_option linter.unusedVariables false
set_option linter.unusedSimpArgs false
namespace Go.Proofs.YtbbfgbkbdhghbaaGreatDoor
open Go.RowKit

theorem alook_put_int (m : List (Int × Int)) (k n f : Int) : alook (aput m k n) f = if k = f then some n else alook m f := by
  unfold aput
  have happ : ∀ m : List (Int × Int), alook m k = none → alook (m ++ [(k, n)]) f = if k = f then some n else alook m f := fun m => by
    induction m with
    | nil => intro _; by_cases e : k = f <;> simp [alook, e]
    | cons p m ih =>
      intro h
      by_cases e : p.1 = k
      · simp [alook, e] at h
      · have ih := ih (by simpa [alook, List.find?_cons, e] using h)
        by_cases e' : p.1 = f
        · have : ¬ k = f := fun h => e (e'.trans h.symm)
          simp [alook, e', this]
        · simpa [alook, List.find?_cons, e'] using ih
  have hmap : ∀ m : List (Int × Int), alook (m.map (fun p => if p.1 = k then (k, n) else p)) f = if k = f then (alook m k).map (fun _ => n) else alook m f := fun m => by
    induction m with
    | nil => by_cases e : k = f <;> simp [alook, e]
    | cons p m ih =>
      by_cases e : p.1 = k
      · by_cases e' : k = f
        · simp [alook, e, e']
        · have : ¬ p.1 = f := fun h => e' (e.symm.trans h)
          simp only [List.map_cons, e, if_true]
          simp only [e', if_false] at ih ⊢
          simp only [alook, List.find?_cons, e', this, decide_false] at ih ⊢
          exact ih
      · by_cases e' : p.1 = f
        · have : ¬ k = f := fun h => e (e'.trans h.symm)
          simp only [List.map_cons, e, if_false, this]
          simp only [alook, List.find?_cons, e', decide_true, Option.map_some]
        · simp only [List.map_cons, e, if_false]
          simp only [alook, List.find?_cons, e, e', decide_false] at ih ⊢
          exact ih
  cases h : alook m k with
  | none =>
    simp only [Option.isSome_none, Bool.false_eq_true, if_false]
    exact happ m h
  | some y =>
    simp only [Option.isSome_some, if_true]
    rw [hmap, h]
    rfl

def sumF (l : List Ln) (f : Int) : Int := ((l.filter (fun x => x.1 == f)).map (fun x => x.2.2.2)).sum
theorem sums_look : ∀ (l : List Ln) (m : List (Int × Int)) (f : Int), alook (l.foldl (fun m x => fadd m x.1 x.2.2.2) m) f = if l.any (fun x => x.1 == f) then some (wrap64 ((alook m f).getD 0 + sumF l f)) else alook m f
  | [], m, f => by simp
  | x :: l, m, f => by
    rw [List.foldl_cons, sums_look l _ f, fadd, alook_put_int]
    by_cases e : x.1 = f
    · subst e
      have hs : sumF (x :: l) x.1 = x.2.2.2 + sumF l x.1 := by simp [sumF]
      rw [hs]
      simp only [if_true, List.any_cons, beq_self_eq_true, Bool.true_or, Option.getD_some]
      by_cases ha : l.any (fun y => y.1 == x.1) = true
      · rw [if_pos ha]
        congr 1
        unfold wrap64
        omega
      · rw [if_neg ha]
        have h0 : sumF l x.1 = 0 := by
          have : l.filter (fun y => y.1 == x.1) = [] := by
            rw [List.filter_eq_nil_iff]
            intro y hy hh
            exact ha (List.any_eq_true.2 ⟨y, hy, hh⟩)
          simp [sumF, this]
        rw [h0, Int.add_zero]
    · have hs : sumF (x :: l) f = sumF l f := by simp [sumF, e]
      have e2 : (x.1 == f) = false := beq_eq_false_iff_ne.2 e
      rw [hs, List.any_cons, e2, Bool.false_or, if_neg e]

theorem mem_sums {m : List (Int × Int)} (hn : (m.map (·.1)).Nodup) (k v : Int) : (k, v) ∈ m ↔ alook m k = some v := by
  induction m with
  | nil => simp [alook]
  | cons p m ih =>
    rw [List.map_cons, List.nodup_cons] at hn
    have ih := ih hn.2
    by_cases e : p.1 = k
    · have hk : ∀ v, (k, v) ∉ m := fun v hv => hn.1 (List.mem_map.2 ⟨(k, v), hv, e.symm⟩)
      have : alook (p :: m) k = some p.2 := by simp [alook, e]
      rw [this]
      simp only [List.mem_cons, hk, or_false, Option.some.injEq]
      constructor
      · intro h; rw [← h]
      · intro h; subst h; subst e; rfl
    · have h1 : alook (p :: m) k = alook m k := by simp [alook, List.find?_cons, e]
      rw [h1, ← ih]
      simp only [List.mem_cons]
      constructor
      · rintro (h | h)
        · exact absurd (by rw [← h]) e
        · exact h
      · exact Or.inr

theorem fundsOf_ext {l m : List Ln} (h : ∀ f, alook (sumsOf l) f = alook (sumsOf m) f) : fundsOf l = fundsOf m := by
  have nl : (sumsOf l).Nodup := List.Pairwise.imp (S := fun (a b : Int × Int) => a ≠ b) (fun h e => h (by rw [e])) (List.pairwise_map.1 (sumsOf_nodup l))
  have nm : (sumsOf m).Nodup := List.Pairwise.imp (S := fun (a b : Int × Int) => a ≠ b) (fun h e => h (by rw [e])) (List.pairwise_map.1 (sumsOf_nodup m))
  have hp : (sumsOf l).Perm (sumsOf m) := by
    rw [List.perm_ext_iff_of_nodup nl nm]
    rintro ⟨k, v⟩
    rw [mem_sums (sumsOf_nodup l), mem_sums (sumsOf_nodup m), h]
  exact RiseI.perm_eq (((fundsOf_perm l).trans hp).trans (fundsOf_perm m).symm) (fundsOf_rise l) (fundsOf_rise m)

theorem sum_perm {a b : List Int} (h : a.Perm b) : a.sum = b.sum := by
  induction h with
  | nil => rfl
  | cons x _ ih => simp [ih]
  | swap x y l => simp only [List.sum_cons]; omega
  | trans _ _ h1 h2 => exact h1.trans h2
theorem fundsL_perm {l m : List Ln} (h : l.Perm m) : fundsL l = fundsL m := by
  unfold fundsL
  rw [fundsOf_ext (l := l) (m := m)]
  intro f
  unfold sumsOf
  rw [sums_look, sums_look]
  have h1 : l.any (fun x => x.1 == f) = m.any (fun x => x.1 == f) := h.any_eq
  have h2 : sumF l f = sumF m f := sum_perm ((h.filter _).map _)
  rw [h1, h2]
theorem fundsL_rise (l : List Ln) : ∀ i (h : i + 1 < (fundsL l).length), ¬ (fundsL l)[i + 1].1 < (fundsL l)[i].1 := by
  intro i h
  have hr := fundsOf_rise l
  unfold RiseI at hr
  rw [List.pairwise_iff_getElem] at hr
  have hl : (fundsL l).length = (fundsOf l).length := by simp [fundsL]
  have := hr i (i + 1) (by omega) (by omega) (by omega)
  simp only [fundsL, List.getElem_map, lnF]
  omega
end Go.Proofs.YtbbfgbkbdhghbaaGreatDoor
