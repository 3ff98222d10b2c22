/-
  A view in memory, as two sorted tables: plain laws.
-/
import Derived.Test.YtbbfgbkbdhghbaaGreatDoorBytes
set_option linter.unusedVariables false
set_option linter.unusedSimpArgs false
namespace Go.Proofs.YtbbfgbkbdhghbaaGreatDoor
open Go.RowKit

/-- the blocks of a view -/
structure VW where
  s : Nat
  c : Nat
  m : Nat

/-- what stands in the map of changes -/
def ShapeV (w : World) (x : Value) : Option Bytes → Prop
  | some b => ∃ v, x = .agg #[v, .bool false] ∧ Bs 5 w v b
  | none => x = .agg #[.slice none 0 0, .bool true]

theorem ShapeV.ext {w w' : World} {x : Value} {o : Option Bytes} {M : List Nat} (h : ShapeV w x o) (e : Ext M w w') (hm : ∀ b ∈ M, ∀ cs fr, w.heap[b]? ≠ some (.cells cs 5 fr)) : ShapeV w' x o := by
  cases o with
  | none => exact h
  | some b => obtain ⟨v, rfl, hb⟩ := h; exact ⟨v, rfl, hb.sl.ext e hm⟩

/-- entries of a map, and what they are -/
def Ents {α : Type} (R : Value → α → Prop) : List (Bytes × Value) → List (Bytes × α) → Prop
  | [], [] => True
  | p :: es, q :: xs => (p.1 = q.1 ∧ R p.2 q.2) ∧ Ents R es xs
  | _, _ => False
theorem Ents.nil {α : Type} (R : Value → α → Prop) : Ents R [] [] := trivial
theorem Ents.cons {α : Type} {R : Value → α → Prop} {p : Bytes × Value} {q : Bytes × α} {es : List (Bytes × Value)} {xs : List (Bytes × α)} (h1 : p.1 = q.1) (h2 : R p.2 q.2) (h : Ents R es xs) : Ents R (p :: es) (q :: xs) := ⟨⟨h1, h2⟩, h⟩
theorem Ents.ind {α : Type} {R : Value → α → Prop} {P : List (Bytes × Value) → List (Bytes × α) → Prop} (h0 : P [] [])
    (h1 : ∀ p q es xs, p.1 = q.1 → R p.2 q.2 → Ents R es xs → P es xs → P (p :: es) (q :: xs)) : ∀ {es : List (Bytes × Value)} {xs : List (Bytes × α)}, Ents R es xs → P es xs
  | [], [], _ => h0
  | _ :: _, _ :: _, h => h1 _ _ _ _ h.1.1 h.1.2 h.2 (Ents.ind h0 h1 h.2)
  | [], _ :: _, h => h.elim
  | _ :: _, [], h => h.elim

theorem Ents.look {α : Type} {R : Value → α → Prop} {es : List (Bytes × Value)} {xs : List (Bytes × α)} (h : Ents R es xs) (k : Bytes) :
    (alook es k = none ∧ alook xs k = none) ∨ ∃ v x, alook es k = some v ∧ alook xs k = some x ∧ R v x := by
  refine Ents.ind (P := fun es xs => (alook es k = none ∧ alook xs k = none) ∨ ∃ v x, alook es k = some v ∧ alook xs k = some x ∧ R v x) (.inl ⟨rfl, rfl⟩) ?_ h
  intro p q es xs h1 h2 _ ih
  by_cases e : p.1 = k
  · have e' : q.1 = k := h1 ▸ e
    exact .inr ⟨p.2, q.2, by simp [alook, e], by simp [alook, e'], h2⟩
  · have e' : ¬ q.1 = k := h1 ▸ e
    simpa [alook, List.find?_cons, e, e'] using ih
theorem Ents.imp {α : Type} {R S : Value → α → Prop} {es : List (Bytes × Value)} {xs : List (Bytes × α)} (h : Ents R es xs) (hi : ∀ v x, R v x → S v x) : Ents S es xs :=
  Ents.ind (P := fun es xs => Ents S es xs) trivial (fun _ _ _ _ h1 h2 _ ih => ⟨⟨h1, hi _ _ h2⟩, ih⟩) h
theorem Ents.length {α : Type} {R : Value → α → Prop} {es : List (Bytes × Value)} {xs : List (Bytes × α)} (h : Ents R es xs) : es.length = xs.length :=
  Ents.ind (R := R) (P := fun es xs => es.length = xs.length) rfl (fun _ _ _ _ _ _ _ ih => by simp [ih]) h
theorem Ents.map {α : Type} {R : Value → α → Prop} {es : List (Bytes × Value)} {xs : List (Bytes × α)} (h : Ents R es xs) : es.map (·.1) = xs.map (·.1) :=
  Ents.ind (R := R) (P := fun es xs => es.map (·.1) = xs.map (·.1)) rfl (fun _ _ _ _ h1 _ _ ih => by simp [ih, h1]) h
theorem Ents.put {α : Type} {R : Value → α → Prop} {es : List (Bytes × Value)} {xs : List (Bytes × α)} (h : Ents R es xs) (k : Bytes) {v : Value} {x : α} (hv : R v x) : Ents R (aput es k v) (aput xs k x) := by
  have hrep : Ents R (es.map (fun p => if p.1 = k then (k, v) else p)) (xs.map (fun p => if p.1 = k then (k, x) else p)) := by
    refine Ents.ind (P := fun es xs => Ents R (es.map (fun p => if p.1 = k then (k, v) else p)) (xs.map (fun p => if p.1 = k then (k, x) else p))) (Ents.nil R) ?_ h
    intro p q es xs h1 h2 _ ih
    rw [List.map_cons, List.map_cons]
    by_cases e : p.1 = k
    · have e' : q.1 = k := h1 ▸ e
      rw [if_pos e, if_pos e']; exact Ents.cons rfl hv ih
    · have e' : ¬ q.1 = k := h1 ▸ e
      rw [if_neg e, if_neg e']; exact Ents.cons h1 h2 ih
  have happ : Ents R (es ++ [(k, v)]) (xs ++ [(k, x)]) :=
    Ents.ind (P := fun es xs => Ents R (es ++ [(k, v)]) (xs ++ [(k, x)])) (by rw [List.nil_append, List.nil_append]; exact Ents.cons (p := (k, v)) (q := (k, x)) rfl hv (Ents.nil R)) (fun _ _ _ _ h1 h2 _ ih => Ents.cons h1 h2 ih) h
  unfold aput
  rcases h.look k with ⟨h1, h2⟩ | ⟨_, _, h1, h2, _⟩
  · rw [h1, h2]; exact happ
  · rw [h1, h2]; exact hrep

theorem alook_aput {α : Type} (xs : List (Bytes × α)) (k k' : Bytes) (x : α) : alook (aput xs k x) k' = if k = k' then some x else alook xs k' := by
  unfold aput
  have hf : ∀ xs : List (Bytes × α), alook (xs ++ [(k, x)]) k' = (alook xs k').or (if k = k' then some x else none) := fun xs => by
    induction xs with
    | nil => by_cases e : k = k' <;> simp [alook, e]
    | cons p xs ih =>
      by_cases e : p.1 = k'
      · simp [alook, e]
      · simpa [alook, List.find?_cons, e] using ih
  have hr : ∀ xs : List (Bytes × α), alook (xs.map (fun p => if p.1 = k then (k, x) else p)) k' = if k = k' then (alook xs k).map (fun _ => x) else alook xs k' := fun xs => by
    induction xs with
    | nil => by_cases e : k = k' <;> simp [alook, e]
    | cons p xs ih =>
      by_cases e : p.1 = k
      · by_cases e' : k = k'
        · simp [alook, e, e']
        · have : ¬ p.1 = k' := fun h => e' (e.symm.trans h)
          simp only [List.map_cons, e, if_true]
          simp only [e', if_false] at ih ⊢
          simp only [alook, List.find?_cons, e', this, decide_false] at ih ⊢
          exact ih
      · by_cases e' : p.1 = k'
        · have : ¬ k = k' := fun h => e (e'.trans h.symm)
          simp only [List.map_cons, e, if_false, this]
          simp only [alook, List.find?_cons, e', decide_true, Option.map_some]
        · simp only [List.map_cons, e, if_false]
          simp only [alook, List.find?_cons, e, e', decide_false] at ih ⊢
          exact ih
  cases h : alook xs k with
  | none =>
    simp only [Option.isSome_none, Bool.false_eq_true, if_false]
    rw [hf]
    by_cases e : k = k'
    · subst e; simp [h]
    · simp [e]
  | some y =>
    simp only [Option.isSome_some, if_true]
    rw [hr, h]
    rfl
theorem aput_length {α : Type} (xs : List (Bytes × α)) (k : Bytes) (x : α) : (aput xs k x).length ≤ xs.length + 1 := by
  unfold aput; split <;> simp

theorem mem_aput {α : Type} {xs : List (Bytes × α)} {k : Bytes} {x : α} {p : Bytes × α} (h : p ∈ aput xs k x) : p = (k, x) ∨ p ∈ xs := by
  unfold aput at h
  split at h
  · obtain ⟨q, hq, e⟩ := List.mem_map.1 h
    split at e
    · exact .inl e.symm
    · exact .inr (e ▸ hq)
  · rcases List.mem_append.1 h with h | h
    · exact .inr h
    · exact .inl (by simpa using h)
/-- a key, and a value, that may stand -/
def Fit2 (k v : Bytes) : Prop := 1 ≤ k.length ∧ k.length ≤ 32 ∧ v.length ≤ 120

/-- V is a view in memory: at its last commit was, now now; n: at most so many entries stand in its maps. -/
structure IsView (w : World) (V : VW) (n : Nat) (was now : Tbl) : Prop where
  cells : w.heap[V.s]? = some (.cells #[.map (some V.c), .pointer none, .map (some V.m), .int .i64 0] 50 (0, 0))
  maps : ∃ ch me chx mex, MapIs strEnc w V.c ch ∧ MapIs strEnc w V.m me ∧ Ents (ShapeV w) ch chx ∧ Ents (Bs 5 w) me mex ∧ chx.length + mex.length ≤ n ∧
    (∀ k, tget was k = alook mex k) ∧ (∀ k, tget now k = match alook chx k with | some o => o | none => alook mex k) ∧ (∀ p ∈ chx, p.1.length ≤ 32)
  swas : Sorted was
  snow : Sorted now
  fwas : ∀ p ∈ was, Fit2 p.1 p.2
  fnow : ∀ p ∈ now, Fit2 p.1 p.2
  ne : V.c ≠ V.m

theorem nodup_len {α : Type} [DecidableEq α] : ∀ {l m : List α}, l.Nodup → (∀ x ∈ l, x ∈ m) → l.length ≤ m.length
  | [], _, _, _ => Nat.zero_le _
  | a :: l, m, hn, hs => by
    have h := nodup_len (l := l) (m := m.erase a) (List.nodup_cons.1 hn).2 (fun x hx => by
      have hne : x ≠ a := fun e => (List.nodup_cons.1 hn).1 (e ▸ hx)
      exact (List.mem_erase_of_ne hne).2 (hs x (.tail _ hx)))
    rw [List.length_erase_of_mem (hs a (.head _))] at h
    have : 0 < m.length := List.length_pos_of_mem (hs a (.head _))
    rw [List.length_cons]
    omega
theorem alook_memK {α : Type} {es : List (Bytes × α)} {k : Bytes} {v : α} (h : alook es k = some v) : k ∈ es.map (·.1) := by
  simp only [alook, Option.map_eq_some_iff] at h
  obtain ⟨p, hp, _⟩ := h
  have h1 := List.find?_some hp
  simp at h1
  exact List.mem_map.2 ⟨p, List.mem_of_find?_eq_some hp, h1⟩
theorem IsView.len {w : World} {V : VW} {n : Nat} {was now : Tbl} (h : IsView w V n was now) : now.length ≤ n := by
  obtain ⟨ch, me, chx, mex, _, _, _, _, h5, _, h7, _⟩ := h.maps
  have := nodup_len (m := chx.map (·.1) ++ mex.map (·.1)) h.snow.nodup (fun k hk => by
    obtain ⟨p, hp, rfl⟩ := List.mem_map.1 hk
    have hg := (h.snow.mem_iff (k := p.1) (v := p.2)).1 hp
    rw [h7] at hg
    cases hc : alook chx p.1 with
    | some o => exact List.mem_append_left _ (alook_memK hc)
    | none => rw [hc] at hg; exact List.mem_append_right _ (alook_memK hg))
  simp at this
  omega

def VW.M (V : VW) : List Nat := [V.s, V.c, V.m]

theorem IsView.lt {w : World} {V : VW} {n : Nat} {was now : Tbl} (h : IsView w V n was now) : V.s < w.heap.size ∧ V.c < w.heap.size ∧ V.m < w.heap.size := by
  obtain ⟨_, _, _, _, h1, h2, _⟩ := h.maps
  exact ⟨(Array.getElem?_eq_some_iff.1 h.cells).1, h1.lt, h2.lt⟩
theorem IsView.ext {w w' : World} {V : VW} {n : Nat} {was now : Tbl} {M : List Nat} (h : IsView w V n was now) (e : Ext M w w') (hd : ∀ b ∈ M, b ≠ V.s ∧ b ≠ V.c ∧ b ≠ V.m)
    (hm : ∀ b ∈ M, ∀ cs fr, w.heap[b]? ≠ some (.cells cs 5 fr)) : IsView w' V n was now := by
  have hs : V.s ∉ M := fun hb => (hd _ hb).1 rfl
  have hc : V.c ∉ M := fun hb => (hd _ hb).2.1 rfl
  have hmm : V.m ∉ M := fun hb => (hd _ hb).2.2 rfl
  obtain ⟨ch, me, chx, mex, h1, h2, h3, h4, h5⟩ := h.maps
  exact ⟨(e.block _ h.lt.1 hs).trans h.cells, ⟨ch, me, chx, mex, h1.ext e hc, h2.ext e hmm, h3.imp fun _ _ hx => hx.ext e hm, h4.imp fun _ _ hx => hx.sl.ext e hm, h5⟩, h.swas, h.snow, h.fwas, h.fnow, h.ne⟩
theorem IsView.then {w w' : World} {V : VW} {n : Nat} {was now : Tbl} (h : IsView w V n was now) (e : Ext [] w w') : IsView w' V n was now := h.ext e (by simp) (by simp)
theorem IsView.mono {w : World} {V : VW} {n n' : Nat} {was now : Tbl} (h : IsView w V n was now) (hn : n ≤ n') : IsView w V n' was now := by
  obtain ⟨ch, me, chx, mex, h1, h2, h3, h4, h5, h6⟩ := h.maps
  exact ⟨h.cells, ⟨ch, me, chx, mex, h1, h2, h3, h4, Nat.le_trans h5 hn, h6⟩, h.swas, h.snow, h.fwas, h.fnow, h.ne⟩
theorem IsView.cell {w : World} {V : VW} {n : Nat} {was now : Tbl} (h : IsView w V n was now) :
    w.cell? ⟨V.s, 0, none⟩ = some (.map (some V.c)) ∧ w.cell? ⟨V.s, 1, none⟩ = some (.pointer none) ∧ w.cell? ⟨V.s, 2, none⟩ = some (.map (some V.m)) ∧ w.cell? ⟨V.s, 3, none⟩ = some (.int .i64 0) := by
  simp [World.cell?, h.cells]
/-- the view's own blocks hold no bytes -/
theorem IsView.nobytes {w : World} {V : VW} {n : Nat} {was now : Tbl} (h : IsView w V n was now) {T : TypeId} (hT : T ≠ 50) : ∀ b ∈ V.M, ∀ cs fr, w.heap[b]? ≠ some (.cells cs T fr) := by
  obtain ⟨_, _, _, _, h1, h2, _⟩ := h.maps
  intro b hb cs fr
  simp only [VW.M, List.mem_cons, List.not_mem_nil, or_false] at hb
  rcases hb with rfl | rfl | rfl
  · rw [h.cells]
    intro e
    injection e with e
    injection e with _ e _
    exact hT e.symm
  · exact h1.ne_cells _ _ _
  · exact h2.ne_cells _ _ _

/-- bytes that outlive what the view turns -/
def StayV (V : VW) (U : TypeId) (w : World) (v : Value) (l : Bytes) : Prop := ∀ W, Ext V.M w W → Bs U W v l
theorem StayV.now {V : VW} {U : TypeId} {w : World} {v : Value} {l : Bytes} (h : StayV V U w v l) : Bs U w v l := h _ (Ext.refl _ _)
theorem StayV.later {V : VW} {U : TypeId} {w w' : World} {v : Value} {l : Bytes} (h : StayV V U w v l) (x : Ext V.M w w') : StayV V U w' v l := fun W y => h W (x.same y)
theorem StayV.of {V : VW} {n : Nat} {was now : Tbl} {w : World} {v : Value} {l : Bytes} (h : Bs 5 w v l) (hv : IsView w V n was now) : StayV V 5 w v l := fun W x => Sl.ext h x (hv.nobytes (by decide))
theorem StayV.old {V : VW} {U : TypeId} {w0 w : World} {v : Value} {l : Bytes} (h : Bs U w0 v l) (h0 : Ext [] w0 w) (hV : ∀ b ∈ V.M, w0.heap.size ≤ b) : StayV V U w v l :=
  fun W x => h.then (h0.trans x (fun b hb hl => absurd hl (Nat.not_lt.2 (hV b hb))))
end Go.Proofs.YtbbfgbkbdhghbaaGreatDoor
