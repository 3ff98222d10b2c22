/-
  Maps' entries struck, and looked up: plain laws.
-/
import Derived.Test.YtbbfgbkbdhghbaaGreatDoorHdr
set_option linter.unusedVariables false
set_option linter.unusedSimpArgs false
namespace Go.Proofs.YtbbfgbkbdhghbaaGreatDoor
open Go.RowKit

theorem Ents.del {α : Type} {R : Value → α → Prop} {es : List (Bytes × Value)} {xs : List (Bytes × α)} (h : Ents R es xs) (k : Bytes) : Ents R (adel es k) (adel xs k) := by
  refine Ents.ind (P := fun es xs => Ents R (adel es k) (adel xs k)) (Ents.nil R) ?_ h
  intro p q es xs h1 h2 _ ih
  unfold adel at ih ⊢
  by_cases e : p.1 = k
  · have e' : q.1 = k := h1 ▸ e
    simp only [List.filter_cons, e, e', ne_eq, not_true_eq_false, decide_false, Bool.false_eq_true, if_false]
    exact ih
  · have e' : ¬ q.1 = k := h1 ▸ e
    simp only [List.filter_cons, e, e', ne_eq, not_false_eq_true, decide_true, if_true]
    exact Ents.cons h1 h2 ih
theorem alook_adel {α : Type} (xs : List (Bytes × α)) (k k' : Bytes) : alook (adel xs k) k' = if k = k' then none else alook xs k' := by
  unfold alook adel
  induction xs with
  | nil => simp
  | cons p xs ih =>
    by_cases e : p.1 = k
    · simp only [List.filter_cons, e, ne_eq, not_true_eq_false, decide_false, Bool.false_eq_true, if_false]
      rw [ih]
      by_cases e' : k = k'
      · simp [e']
      · simp [e', List.find?_cons, e]
    · simp only [List.filter_cons, e, ne_eq, not_false_eq_true, decide_true, if_true, List.find?_cons]
      by_cases e' : p.1 = k'
      · have : ¬ k = k' := fun h => e (e'.trans h.symm)
        simp [e', this]
      · simpa [e'] using ih
theorem adel_length {α : Type} (xs : List (Bytes × α)) (k : Bytes) : (adel xs k).length ≤ xs.length := List.length_filter_le _ _

theorem mem_alook {β : Type} {es : List (Bytes × β)} {k : Bytes} {v : β} (hn : (es.map (·.1)).Nodup) (h : (k, v) ∈ es) : alook es k = some v := by
  induction es with
  | nil => simp at h
  | cons p es ih =>
    simp only [List.map_cons, List.nodup_cons] at hn
    rcases List.mem_cons.1 h with rfl | h
    · simp [alook]
    · have hne : p.1 ≠ k := fun e => hn.1 (List.mem_map.2 ⟨_, h, e.symm⟩)
      have := ih hn.2 h
      simp only [alook, List.find?_cons, hne, decide_false] at this ⊢
      exact this
theorem mem_of_alook {β : Type} {es : List (Bytes × β)} {k : Bytes} {v : β} (h : alook es k = some v) : (k, v) ∈ es := by
  simp only [alook, Option.map_eq_some_iff] at h
  obtain ⟨p, hp, e⟩ := h
  have h1 := List.find?_some hp
  have h2 := List.mem_of_find?_eq_some hp
  simp at h1
  rw [← e, ← h1]
  exact h2
theorem alook_none_iff {β : Type} {es : List (Bytes × β)} {k : Bytes} : alook es k = none ↔ k ∉ es.map (·.1) := by
  simp only [alook, Option.map_eq_none_iff, List.find?_eq_none, List.mem_map, not_exists, not_and]
  constructor
  · intro h p hp e; exact (h p hp) (by simpa using e)
  · intro h p hp; simpa using h p hp

theorem MapIs.one {κ : Type} [DecidableEq κ] {E : KeyEnc κ} {w : World} {b : Nat} {es : List (κ × Value)} {T : TypeId} (h : MapIs E w b es) : ∀ x ∈ [b], ∀ cs fr, w.heap[x]? ≠ some (.cells cs T fr) := by
  intro x hx cs fr
  simp at hx
  subst hx
  exact h.ne_cells _ _ _
theorem Iter.nodup {κ : Type} [DecidableEq κ] {E : KeyEnc κ} {w : World} {b r : Nat} {es left : List (κ × Value)} (h : Iter E w r b es left) : (left.map (·.1)).Nodup := by
  have hn := h.map.nodup
  obtain ⟨a, c, s, h1, h2, h3, h4, h5⟩ := h
  have hsub : ((leftOf a s).toList.map (fun x => (x.key, x.val))).Sublist (a.toList.map fun x => (x.key, x.val)) := by
    unfold leftOf
    rw [Array.toList_filter]
    exact List.filter_sublist.map _
  rw [h5, h3] at hsub
  have hs2 := hsub.map Prod.fst
  simp only [List.map_map, Function.comp_def] at hs2
  have e : ∀ l : List (κ × Value), l.map (fun x => E.enc x.1) = (l.map (·.1)).map E.enc := fun l => by simp
  rw [e, e] at hs2
  have h6 : ((es.map (·.1)).map E.enc).Nodup := List.pairwise_map.2 (hn.imp fun h e => h (E.inj _ _ e))
  exact List.Pairwise.imp (S := fun a b => a ≠ b) (fun h e => h (by rw [e])) (List.pairwise_map.1 (hs2.nodup h6))

end Go.Proofs.YtbbfgbkbdhghbaaGreatDoor
