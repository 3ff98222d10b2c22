/-
  A row of elements of several cells that one owns, sorted by the library: plain laws.
-/
import Derived.Test.YtbbfgbkbdhghbaaGreatDoorSlices
import Derived.Shelf.SlSortCmp.NoneTotal
import Derived.Sort.OwnSorted
set_option linter.unusedVariables false
set_option linter.unusedSimpArgs false
set_option linter.unusedSectionVars false
namespace Go.Proofs.YtbbfgbkbdhghbaaGreatDoor
open Go.RowKit Go.Sort

section
variable {α : Type} [Inhabited α] {enc : α → List Value} {k : Nat}

theorem flat_get (hk : ∀ x, (enc x).length = k) (h0 : 0 < k) : ∀ (ds : List α) (t : Nat), t < ds.length * k → (ds.flatMap enc)[t]? = some ((enc (ds.toArray[t / k]!))[t % k]!) := by
  intro ds
  induction ds with
  | nil => intro t ht; simp at ht
  | cons a ds ih =>
    intro t ht
    rw [List.flatMap_cons]
    by_cases hlt : t < k
    · rw [List.getElem?_append_left (by rw [hk]; exact hlt)]
      have e1 : t / k = 0 := Nat.div_eq_of_lt hlt
      have e2 : t % k = t := Nat.mod_eq_of_lt hlt
      rw [e1, e2]
      have : t < (enc a).length := by rw [hk]; exact hlt
      simp [this]
    · have hlen : (a :: ds).length * k = ds.length * k + k := by rw [List.length_cons, Nat.add_mul, Nat.one_mul]
      rw [List.getElem?_append_right (by rw [hk]; omega), hk, ih (t - k) (by omega)]
      have e1 : t / k = (t - k) / k + 1 := by rw [Nat.div_eq t k]; simp [h0, Nat.le_of_not_lt hlt]
      have e2 : t % k = (t - k) % k := by rw [Nat.mod_eq t k]; simp [h0, Nat.le_of_not_lt hlt]
      rw [e1, e2]
      have e3 : (a :: ds).toArray[(t - k) / k + 1]! = ds.toArray[(t - k) / k]! := by simp
      rw [e3]
theorem flat_length (hk : ∀ x, (enc x).length = k) (ds : List α) : (ds.flatMap enc).length = ds.length * k := by
  induction ds with
  | nil => simp
  | cons a ds ih => rw [List.flatMap_cons, List.length_append, hk, ih, List.length_cons, Nat.add_mul]; omega
theorem flatK_list (hk : ∀ x, (enc x).length = k) (h0 : 0 < k) (ds : List α) : (flatK enc k ds.toArray).toList = ds.flatMap enc := by
  apply List.ext_getElem?
  intro t
  by_cases ht : t < ds.length * k
  · rw [flat_get hk h0 ds t ht]
    have := get_flatK enc k ds.toArray t (by simpa using ht)
    rw [← this]
    have hs : t < (flatK enc k ds.toArray).size := by simpa using ht
    rw [Array.getElem?_toList, Array.getElem?_eq_getElem hs, getElem!_pos _ t hs]
  · rw [List.getElem?_eq_none (by simp; omega), List.getElem?_eq_none (by rw [flat_length hk]; omega)]

theorem holdsK_own (hk : ∀ x, (enc x).length = k) (h0 : 0 < k) {w : World} {base T g cap n : Nat} {ds : List α} (h : w.ownsRow base T k (.slice (some ⟨g, 0, none⟩) n cap) n (ds.flatMap enc)) :
    HoldsK enc k w g 0 ds.toArray := by
  obtain ⟨hl, ⟨q, _⟩ | ⟨g', cap', cur, hv, hb, hg, h1, h2, h3, h4⟩⟩ := h
  · cases q
  · cases hv
    intro j hj
    have hjl : j < ds.length * k := by simpa using hj
    rw [flat_length hk] at hl
    refine ⟨?_, by simp [World.frozen?, hg]⟩
    have e1 := flat_get hk h0 ds j hjl
    rw [← h4, List.getElem?_take_of_lt (by omega), Array.getElem?_toList] at e1
    rw [Nat.zero_add]
    simp only [World.cell?, hg, Option.isSome_none, Bool.false_eq_true, if_false]
    rw [e1, get_flatK enc k ds.toArray j (by simpa using hjl)]
    rfl

theorem ext_sortWorldK {w : World} {g m : Nat} (hg : g < w.heap.size) (d' : Array α) (os : Array Obj) : Ext [g] w (sortWorldK enc k w g 0 m d' os) := by
  refine ⟨rfl, rfl, rfl, by simp [sortWorldK, putRowK, putRow, mapBlock, Sort.ahead, grow], fun b hb hm => ?_⟩
  unfold sortWorldK
  rw [heap_grow_old _ _ (by simpa [putRowK, putRow, mapBlock, Sort.ahead] using hb)]
  have : g ≠ b := fun e => hm (by simp [e])
  simp [putRowK, putRow, mapBlock, Sort.ahead, Array.getElem?_modify, this]

theorem own_sortK (hk : ∀ x, (enc x).length = k) (h0 : 0 < k) {w : World} {base T g cap n : Nat} {ds : List α} (h : w.ownsRow base T k (.slice (some ⟨g, 0, none⟩) n cap) n (ds.flatMap enc))
    (ds' : List α) (hl' : ds'.length = ds.length) (m : Nat) (os : Array Obj) : (sortWorldK enc k w g 0 m ds'.toArray os).ownsRow base T k (.slice (some ⟨g, 0, none⟩) n cap) n (ds'.flatMap enc) := by
  obtain ⟨hl, ⟨q, _⟩ | ⟨g', cap', cur, hv, hb, hg, h1, h2, h3, h4⟩⟩ := h
  · cases q
  · cases hv
    rw [flat_length hk] at hl
    have hgl : g < w.heap.size := (Array.getElem?_eq_some_iff.1 hg).1
    refine ⟨by rw [flat_length hk, hl']; exact hl, .inr ⟨g, cap, putCells id 0 (flatK enc k ds'.toArray) cur, rfl, hb, ?_, h1, h2, by simp [putCells, h3], ?_⟩⟩
    · unfold sortWorldK
      rw [heap_grow_old _ _ (by simpa [putRowK, putRow, mapBlock, Sort.ahead] using hgl)]
      simp [putRowK, putRow, mapBlock, Sort.ahead, Array.getElem?_modify, hg, onCells]
    · rw [← flatK_list hk h0]
      apply List.ext_getElem?
      intro j
      have hsz : (flatK enc k ds'.toArray).size = n * k := by simp; rw [hl', hl]
      have hcn : n * k ≤ cap * k := Nat.mul_le_mul_right k h1
      by_cases hj : j < n * k
      · have hs : j < (flatK enc k ds'.toArray).size := by omega
        rw [List.getElem?_take_of_lt hj, Array.getElem?_toList, Array.getElem?_toList]
        simp [putCells, show j < cur.size by omega, hj, hsz, hs]
      · rw [List.getElem?_take_eq_none (by omega), List.getElem?_eq_none (by simp only [Array.length_toList]; omega)]
end
end Go.Proofs.YtbbfgbkbdhghbaaGreatDoor
