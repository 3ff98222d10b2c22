/-
  Sorted tables of keys: plain laws.
-/
set_option linter.unusedVariables false
set_option linter.unusedSimpArgs false
namespace Go.Proofs.YtbbfgbkbdhghbaaGreatDoor

abbrev Bytes := List UInt8
abbrev Tbl := List (Bytes × Bytes)

theorem blt_irrefl (a : Bytes) : ¬ a < a := List.lt_irrefl a
theorem blt_trans {a b c : Bytes} (h : a < b) (h' : b < c) : a < c := List.lt_trans h h'
theorem blt_asymm {a b : Bytes} (h : a < b) : ¬ b < a := fun h' => blt_irrefl a (blt_trans h h')
theorem blt_total {a b : Bytes} (h : ¬ a < b) (h' : ¬ b < a) : a = b := by
  exact List.le_antisymm (List.not_lt.1 h') (List.not_lt.1 h)
theorem blt_ne {a b : Bytes} (h : a < b) : a ≠ b := fun e => blt_irrefl b (e ▸ h)

def tget (T : Tbl) (k : Bytes) : Option Bytes := (T.find? (fun p => p.1 = k)).map (·.2)
def tput : Tbl → Bytes → Bytes → Tbl
  | [], k, v => [(k, v)]
  | p :: T, k, v => if p.1 < k then p :: tput T k v else if p.1 = k then (k, v) :: T else (k, v) :: p :: T
def tdel (T : Tbl) (k : Bytes) : Tbl := T.filter (fun p => p.1 ≠ k)
def tscan (T : Tbl) (p : Bytes) : Tbl := T.filter (fun q => p.isPrefixOf q.1)
def Sorted (T : Tbl) : Prop := T.Pairwise (fun a b => a.1 < b.1)

theorem tget_nil (k : Bytes) : tget [] k = none := rfl
theorem tget_cons (p : Bytes × Bytes) (T : Tbl) (k : Bytes) : tget (p :: T) k = if p.1 = k then some p.2 else tget T k := by
  unfold tget
  by_cases h : p.1 = k <;> simp [List.find?_cons, h]

theorem tget_none {T : Tbl} {k : Bytes} (h : ∀ p ∈ T, p.1 ≠ k) : tget T k = none := by
  simp only [tget, Option.map_eq_none_iff, List.find?_eq_none]
  intro p hp
  simpa using h p hp
theorem tget_none_iff {T : Tbl} {k : Bytes} : tget T k = none ↔ ∀ p ∈ T, p.1 ≠ k := by
  simp only [tget, Option.map_eq_none_iff, List.find?_eq_none]
  constructor
  · intro h p hp; simpa using h p hp
  · intro h p hp; simpa using h p hp
theorem tget_mem {T : Tbl} {k v : Bytes} (h : tget T k = some v) : (k, v) ∈ T := by
  simp only [tget, Option.map_eq_some_iff] at h
  obtain ⟨p, hp, e⟩ := h
  have h1 := List.find?_some hp
  have h2 := List.mem_of_find?_eq_some hp
  simp at h1
  rw [← e, ← h1]
  exact h2

theorem Sorted.nil : Sorted [] := List.Pairwise.nil
theorem Sorted.nodup {T : Tbl} (h : Sorted T) : (T.map (·.1)).Nodup := List.pairwise_map.2 (h.imp fun h => blt_ne h)
theorem tget_of_mem {T : Tbl} (h : (T.map (·.1)).Nodup) {k v : Bytes} (hm : (k, v) ∈ T) : tget T k = some v := by
  induction T with
  | nil => simp at hm
  | cons p T ih =>
    simp only [List.map_cons, List.nodup_cons] at h
    rw [tget_cons]
    rcases List.mem_cons.1 hm with rfl | hm
    · simp
    · rw [if_neg (fun e => h.1 (List.mem_map.2 ⟨_, hm, e.symm⟩)), ih h.2 hm]
theorem Sorted.mem_iff {T : Tbl} (h : Sorted T) {k v : Bytes} : (k, v) ∈ T ↔ tget T k = some v := ⟨tget_of_mem h.nodup, tget_mem⟩

theorem mem_tput {T : Tbl} {k v : Bytes} {q : Bytes × Bytes} (h : q ∈ tput T k v) : q = (k, v) ∨ q ∈ T := by
  induction T with
  | nil => simpa [tput] using h
  | cons p T ih =>
    simp only [tput] at h
    split at h
    · rcases List.mem_cons.1 h with rfl | h
      · exact .inr (.head _)
      · exact (ih h).imp id (.tail _)
    · split at h
      · rcases List.mem_cons.1 h with rfl | h
        · exact .inl rfl
        · exact .inr (.tail _ h)
      · rcases List.mem_cons.1 h with rfl | h
        · exact .inl rfl
        · exact .inr h

theorem Sorted.tput {T : Tbl} (h : Sorted T) (k v : Bytes) : Sorted (tput T k v) := by
  induction T with
  | nil => simp [Go.Proofs.YtbbfgbkbdhghbaaGreatDoor.tput, Sorted]
  | cons p T ih =>
    unfold Sorted at h ih ⊢
    have hp := List.pairwise_cons.1 h
    simp only [Go.Proofs.YtbbfgbkbdhghbaaGreatDoor.tput]
    split
    · rename_i hlt
      refine List.pairwise_cons.2 ⟨fun q hq => ?_, ih hp.2⟩
      rcases mem_tput hq with rfl | hq
      · exact hlt
      · exact hp.1 q hq
    · split
      · rename_i e
        refine List.pairwise_cons.2 ⟨fun q hq => ?_, hp.2⟩
        have := hp.1 q hq
        rwa [e] at this
      · rename_i h1 h2
        have hk : k < p.1 := by
          by_cases hh : k < p.1
          · exact hh
          · exact absurd (blt_total h1 hh) h2
        refine List.pairwise_cons.2 ⟨fun q hq => ?_, h⟩
        rcases List.mem_cons.1 hq with rfl | hq
        · exact hk
        · exact blt_trans hk (hp.1 q hq)

theorem tget_tput {T : Tbl} (h : Sorted T) (k v k' : Bytes) : tget (tput T k v) k' = if k = k' then some v else tget T k' := by
  induction T with
  | nil => simp [tput, tget_cons, tget_nil]
  | cons p T ih =>
    have hp := List.pairwise_cons.1 h
    simp only [tput]
    split
    · rename_i hlt
      rw [tget_cons, ih hp.2, tget_cons]
      by_cases e : p.1 = k'
      · have : k ≠ k' := fun e' => blt_irrefl k (by rw [← e'] at e; rw [e] at hlt; exact hlt)
        simp [e, this]
      · simp [e]
    · split
      · rename_i e
        rw [tget_cons, tget_cons]
        subst e
        by_cases e : p.1 = k' <;> simp [e]
      · rw [tget_cons]

theorem Sorted.tdel {T : Tbl} (h : Sorted T) (k : Bytes) : Sorted (tdel T k) := List.Pairwise.filter _ h
theorem tget_tdel (T : Tbl) (k k' : Bytes) : tget (tdel T k) k' = if k = k' then none else tget T k' := by
  induction T with
  | nil => simp [tdel, tget_nil]
  | cons p T ih =>
    simp only [tdel, List.filter_cons] at ih ⊢
    by_cases e : p.1 = k
    · simp only [e, ne_eq, not_true_eq_false, decide_false, Bool.false_eq_true, if_false]
      rw [ih, tget_cons, e]
      by_cases e' : k = k' <;> simp [e']
    · simp only [ne_eq, e, not_false_eq_true, decide_true, if_true]
      rw [tget_cons, ih, tget_cons]
      by_cases e' : k = k'
      · have : p.1 ≠ k' := fun e2 => e (e2.trans e'.symm)
        simp [e', this]
      · simp [e']

theorem Sorted.tscan {T : Tbl} (h : Sorted T) (p : Bytes) : Sorted (tscan T p) := List.Pairwise.filter _ h

theorem Sorted.nd {T : Tbl} (h : Sorted T) : T.Nodup := List.Pairwise.imp (S := fun (a b : Bytes × Bytes) => a ≠ b) (fun h e => blt_ne h (by rw [e])) h
theorem Sorted.perm_eq {A B : Tbl} (hp : A.Perm B) (ha : Sorted A) (hb : Sorted B) : A = B := by
  exact List.Perm.eq_of_pairwise (le := fun (a b : Bytes × Bytes) => a.1 < b.1) (fun a b _ _ h1 h2 => absurd h2 (blt_asymm h1)) ha hb hp

theorem Sorted.ext {A B : Tbl} (ha : Sorted A) (hb : Sorted B) (h : ∀ k, tget A k = tget B k) : A = B := by
  refine Sorted.perm_eq ?_ ha hb
  have na : A.Nodup := ha.nd
  have nb : B.Nodup := hb.nd
  rw [List.perm_ext_iff_of_nodup na nb]
  rintro ⟨k, v⟩
  rw [ha.mem_iff, hb.mem_iff, h]

/-- Whatever lists the pairs with a prefix, each once, is, in order, the scan. -/
theorem tscan_of_perm {T L S : Tbl} {p : Bytes} (hT : Sorted T) (hp : S.Perm L) (hS : Sorted S) (hnd : L.Nodup) (hL : ∀ k v, (k, v) ∈ L ↔ tget T k = some v ∧ p.isPrefixOf k = true) : S = tscan T p := by
  refine Sorted.perm_eq (hp.trans ?_) hS (hT.tscan p)
  have nb := (hT.tscan p).nd
  rw [List.perm_ext_iff_of_nodup hnd nb]
  rintro ⟨k, v⟩
  rw [hL, Go.Proofs.YtbbfgbkbdhghbaaGreatDoor.tscan, List.mem_filter, hT.mem_iff]

/-- A list of pairs, each key once, is sorted behind a sort that may not part equals. -/
theorem sorted_of_le {S : Tbl} (h : S.Pairwise (fun a b => ¬ b.1 < a.1)) (hn : (S.map (·.1)).Nodup) : Sorted S := by
  have := List.pairwise_map.1 hn
  refine List.Pairwise.imp (R := fun (a b : Bytes × Bytes) => ¬ b.1 < a.1 ∧ a.1 ≠ b.1) (fun {a b} h => ?_) (h.and this)
  by_cases hh : a.1 < b.1
  · exact hh
  · exact absurd (blt_total hh h.1) h.2
theorem filterMap_take {α β : Type} {f : α → Option β} {L : List α} {i : Nat} (h : i < L.length) : (L.take (i + 1)).filterMap f = (L.take i).filterMap f ++ (f L[i]).toList := by
  rw [List.take_succ_eq_append_getElem h, List.filterMap_append]
  have : [L[i]].filterMap f = (f L[i]).toList := by cases hf : f L[i] <;> simp [hf]
  rw [this]
end Go.Proofs.YtbbfgbkbdhghbaaGreatDoor
