/-
  slices.DeleteFunc over pairs, with the closure of view.Scan: the row behind it.
-/
import Derived.Test.YtbbfgbkbdhghbaaGreatDoorScan2
import Derived.Laws.IdiomCopy
set_option linter.unusedVariables false
set_option linter.unusedSimpArgs false
namespace Go.Proofs.YtbbfgbkbdhghbaaGreatDoor
open Go.RowKit

theorem setCell_at {w : World} {g off : Nat} {cur : Array Value} {T : TypeId} {fr : Nat × Nat} (h : w.heap[g]? = some (.cells cur T fr)) (u : Value) :
    (w.setCell ⟨g, off, none⟩ u).heap[g]? = some (.cells (cur.setIfInBounds off u) T fr) := by
  obtain ⟨hl, he⟩ := Array.getElem?_eq_some_iff.1 h
  have hs : g < (w.setCell ⟨g, off, none⟩ u).heap.size := by simp [World.setCell, hl]
  rw [Array.getElem?_eq_getElem hs]
  simp only [World.setCell]
  rw [Array.getElem_modify_self, he]
  rfl

/-- a run of cells of one block is written -/
theorem setCells_at {g : Nat} {T : TypeId} {fr : Nat × Nat} : ∀ (vs : List Value) (o : Nat) (w : World) (cur : Array Value), w.heap[g]? = some (.cells cur T fr) →
    ∃ cur', (w.setCells g o vs).heap[g]? = some (.cells cur' T fr) ∧ cur'.size = cur.size ∧ (∀ j, j < o → cur'[j]? = cur[j]?) ∧ Ext [g] w (w.setCells g o vs)
  | [], o, w, cur, h => ⟨cur, h, rfl, fun _ _ => rfl, Ext.refl _ _⟩
  | v :: r, o, w, cur, h => by
    obtain ⟨cur', h1, h2, h3, h4⟩ := setCells_at r (o + 1) (w.setCell ⟨g, o, none⟩ v) _ (setCell_at h v)
    refine ⟨cur', h1, by simpa using h2, fun j hj => ?_, ((Ext.refl [g] w).setCell (fun _ => by simp) v).same h4⟩
    rw [h3 j (by omega), Array.getElem?_setIfInBounds]
    have : ¬ o = j := by omega
    simp [this]

theorem cells2_set (hs : List (Value × Value)) : ∀ (i : Nat) (k v : Value), ((cells2 hs).set (i * 2) k).set (i * 2 + 1) v = cells2 (hs.set i (k, v)) := by
  induction hs with
  | nil => intro i k v; simp [cells2]
  | cons a hs ih =>
    intro i k v
    cases i with
    | zero => simp [cells2]
    | succ i =>
      have := ih i k v
      have e : (i + 1) * 2 = i * 2 + 1 + 1 := by omega
      simp only [cells2, List.flatMap_cons, e, List.cons_append, List.nil_append, List.set_cons_succ] at this ⊢
      rw [this]

/-- two cells of a row that one owns are written -/
theorem own_set2 {w : World} {base T g n cap : Nat} {hs : List (Value × Value)} (h : w.ownsRow base T 2 (.slice (some ⟨g, 0, none⟩) n cap) n (cells2 hs)) {i : Nat} (hi : i < n) (k v : Value) :
    ((w.setCell ⟨g, i * 2, none⟩ k).setCell ⟨g, i * 2 + 1, none⟩ v).ownsRow base T 2 (.slice (some ⟨g, 0, none⟩) n cap) n (cells2 (hs.set i (k, v))) := by
  obtain ⟨hl, ⟨h0, _⟩ | ⟨g', cap', cur, hv, hb, hg, h1, h2, h3, h4⟩⟩ := h
  · cases h0
  · cases hv
    refine ⟨by rw [cells2_length] at hl ⊢; simpa using hl, .inr ⟨g, cap, _, rfl, hb, setCell_at (setCell_at hg k) v, h1, h2, by simpa using h3, ?_⟩⟩
    rw [← cells2_set, ← h4]
    simp only [Array.toList_setIfInBounds, List.take_set]

theorem own_cells {w : World} {base T g n cap : Nat} {xs : List Value} {k : Nat} (h : w.ownsRow base T k (.slice (some ⟨g, 0, none⟩) n cap) n xs) :
    ∃ cur, w.heap[g]? = some (.cells cur T (0, 0)) ∧ cur.size = cap * k ∧ cur.toList.take (n * k) = xs ∧ n ≤ cap ∧ base ≤ g ∧ cap ≤ maxLen := by
  obtain ⟨hl, ⟨h0, _⟩ | ⟨g', cap', cur, hv, hb, hg, h1, h2, h3, h4⟩⟩ := h
  · cases h0
  · cases hv
    exact ⟨cur, hg, h3, h4, h1, hb, h2⟩

theorem zero_pair (w : World) : (zeroValue 95).run Tryz.prog w = .ok (.agg #[.slice none 0 0, .slice none 0 0]) w := by kernel_rfl

/-- clear(s[i:]) of a row that one owns: what is ahead of i stays -/
theorem run_clear_rest {w : World} {base g n cap : Nat} {xs : List Value} (h : w.ownsRow base 95 2 (.slice (some ⟨g, 0, none⟩) n cap) n xs) {i : Nat} (hi : i ≤ n) (c : Nat) :
    ∃ w', (Builtin.clear_ #[51] 0 #[.slice (some ⟨g, i * 2, none⟩) (n - i) c]).run Tryz.prog w = .ok (.tuple #[]) w' ∧ w'.ownsRow base 95 2 (.slice (some ⟨g, 0, none⟩) i cap) i (xs.take (i * 2)) ∧ Ext [g] w w' := by
  obtain ⟨cur, hg, hcs, htake, hnc, hb, hcm⟩ := own_cells h
  have fin : ∀ (w' : World) (cur' : Array Value), w'.heap[g]? = some (.cells cur' 95 (0, 0)) → cur'.size = cur.size → (∀ j, j < i * 2 → cur'[j]? = cur[j]?) → w'.ownsRow base 95 2 (.slice (some ⟨g, 0, none⟩) i cap) i (xs.take (i * 2)) := by
    intro w' cur' h1 h2 h3
    have hx : xs.take (i * 2) = cur.toList.take (i * 2) := by rw [← htake, List.take_take]; congr 1; omega
    refine ⟨?_, .inr ⟨g, cap, cur', rfl, hb, h1, by omega, hcm, by omega, ?_⟩⟩
    · rw [hx]; simp; omega
    · rw [hx]
      apply List.ext_getElem?
      intro j
      by_cases hj : j < i * 2
      · rw [List.getElem?_take_of_lt hj, List.getElem?_take_of_lt hj, Array.getElem?_toList, Array.getElem?_toList, h3 j hj]
      · rw [List.getElem?_take_eq_none (by omega), List.getElem?_take_eq_none (by omega)]
  rcases Nat.eq_zero_or_pos (n - i) with h0 | hpos
  · refine ⟨w, ?_, fin w cur hg rfl (fun _ _ => rfl), Ext.refl _ _⟩
    rw [h0]
    simp [Builtin.clear_, run_underlying Tryz.underlying51]
  · have hst := run_storeCells_cells (P := Tryz.prog) g (i * 2) (Builtin.zeroCells #[.slice none 0 0, .slice none 0 0] (n - i)).toList 0 w ?_ ?_ ?_
    · obtain ⟨cur', h1, h2, h3, h4⟩ := setCells_at (Builtin.zeroCells #[.slice none 0 0, .slice none 0 0] (n - i)).toList (i * 2 + 0) w cur hg
      refine ⟨_, ?_, fin _ cur' h1 h2 h3, h4⟩
      obtain ⟨m, hm⟩ : ∃ m, n - i = m + 1 := ⟨n - i - 1, by omega⟩
      rw [hm] at hst ⊢
      simp [Builtin.clear_, run_underlying Tryz.underlying51, zero_pair, Value.cells, hst, Result.andThen]
    · intro j hj
      have hj2 : j < (n - i) * 2 := by simpa [Builtin.zeroCells] using hj
      have : i * 2 + 0 + j < cur.size := by omega
      simp [World.cell?, hg]
      omega
    · intro j hj
      simp [World.frozen?, hg]
    · intro v hv
      simp only [Builtin.zeroCells, Array.toList_map, List.mem_map] at hv
      obtain ⟨j, _, rfl⟩ := hv
      have : j % 2 = 0 ∨ j % 2 = 1 := by omega
      rcases this with h | h <;> simp [h, Value.oneCell']
end Go.Proofs.YtbbfgbkbdhghbaaGreatDoor
