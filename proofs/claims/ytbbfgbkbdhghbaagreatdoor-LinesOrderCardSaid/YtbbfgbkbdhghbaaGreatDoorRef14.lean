/-
  The document's view: New, Get, Scan, Put, Delete.
-/
import Derived.Test.YtbbfgbkbdhghbaaGreatDoorRef12d
import Derived.Test.YtbbfgbkbdhghbaaGreatDoorView
set_option linter.unusedVariables false
set_option linter.unusedSimpArgs false
namespace Go.Proofs.YtbbfgbkbdhghbaaGreatDoor
open Go.RowKit
variable {B : Nat} {U U1 U2 : TypeId}

/-- blocks from B on that the document's view alone is made of -/
def RefM (B : Nat) (w : World) (M : List Nat) : Prop := ∀ x ∈ M, B ≤ x ∧ ∃ cs fr, w.heap[x]? = some (.cells cs 54 fr) ∨ w.heap[x]? = some (.cells cs 56 fr)
def RExt (B : Nat) (w w' : World) : Prop := ∃ M, RefM B w M ∧ Ext M w w'
/-- below B all stays -/
theorem RExt.old {w0 w w' : World} (h : RExt w0.heap.size w w') (h0 : Ext [] w0 w) : Ext [] w0 w' := by
  obtain ⟨M, hM, x⟩ := h
  exact h0.trans x (fun k hk hl => absurd hl (Nat.not_lt.2 (hM k hk).1))
theorem RExt.of {w w' : World} (h : Ext [] w w') : RExt B w w' := ⟨[], by simp [RefM], h⟩
theorem RExt.size {w w' : World} (h : RExt B w w') : w.heap.size ≤ w'.heap.size := by obtain ⟨_, _, h⟩ := h; exact h.size
theorem RExt.trans {w w1 w2 : World} (h : RExt B w w1) (h' : RExt B w1 w2) : RExt B w w2 := by
  obtain ⟨M, hM, x⟩ := h
  obtain ⟨M', hM', x'⟩ := h'
  refine ⟨M ++ M'.filter (fun k => decide (k < w.heap.size)), ?_, (x.mono (M' := M ++ M'.filter (fun k => decide (k < w.heap.size))) (by simp +contextual)).trans x' (fun k hk hl => by simp [hk, hl])⟩
  intro k hk
  rcases List.mem_append.1 hk with hk | hk
  · exact hM k hk
  · obtain ⟨h1, h2⟩ := List.mem_filter.1 hk
    have h2 : k < w.heap.size := by simpa using h2
    by_cases hm : k ∈ M
    · exact hM k hm
    · obtain ⟨h0, cs, fr, h3⟩ := hM' k h1
      rw [x.block k h2 hm] at h3
      exact ⟨h0, cs, fr, h3⟩
theorem RExt.then {w w1 w2 : World} (h : RExt B w w1) (h' : Ext [] w1 w2) : RExt B w w2 := h.trans (RExt.of h')
theorem RefM.ne {w : World} {M : List Nat} (h : RefM B w M) {U : TypeId} (h1 : 54 ≠ U) (h2 : 56 ≠ U) : ∀ x ∈ M, ∀ cs fr, w.heap[x]? ≠ some (.cells cs U fr) := by
  intro x hx cs fr hh
  obtain ⟨_, cs', fr', h | h⟩ := h x hx
  · rw [h] at hh; injection hh with hh; injection hh with _ hh _; exact h1 hh
  · rw [h] at hh; injection hh with hh; injection hh with _ hh _; exact h2 hh
theorem Sl.rext {w w' : World} {T : TypeId} {v : Value} {n : Nat} {xs : List Value} (h : Sl w T v n xs) (x : RExt B w w') (h1 : 54 ≠ T) (h2 : 56 ≠ T) : Sl w' T v n xs := by
  obtain ⟨M, hM, e⟩ := x
  exact h.ext e (hM.ne h1 h2)
theorem IsView.rext {w w' : World} {V : VW} {n : Nat} {was now : Tbl} (h : IsView w V n was now) (x : RExt B w w') : IsView w' V n was now := by
  obtain ⟨M, hM, e⟩ := x
  obtain ⟨_, _, _, _, h1, h2, _⟩ := h.maps
  refine h.ext e (fun b hb => ⟨fun hh => ?_, fun hh => ?_, fun hh => ?_⟩) (hM.ne (by decide) (by decide))
  · exact hM.ne (U := 50) (by decide) (by decide) b hb _ _ (hh ▸ h.cells)
  · obtain ⟨_, cs, fr, hq | hq⟩ := hM b hb
    · exact h1.ne_cells _ _ _ (hh ▸ hq)
    · exact h1.ne_cells _ _ _ (hh ▸ hq)
  · obtain ⟨_, cs, fr, hq | hq⟩ := hM b hb
    · exact h2.ne_cells _ _ _ (hh ▸ hq)
    · exact h2.ne_cells _ _ _ (hh ▸ hq)

/-- block s is a view of the document's: at its last commit was, now now -/
def IsRef (B : Nat) (w : World) (s n : Nat) (was now : Tbl) : Prop := ∃ a b c told, w.heap[s]? = some (.cells #[.pointer (some ⟨a, 0, none⟩), .pointer (some ⟨b, 0, none⟩), .pointer (some ⟨c, 0, none⟩)] 56 (0, 0)) ∧
  IsTab w a was ∧ IsTab w b now ∧ IsTab w c told ∧ a ≠ b ∧ a ≠ c ∧ b ≠ c ∧ Sorted was ∧ Sorted now ∧ Sorted told ∧ (∀ p ∈ was, Fit2 p.1 p.2) ∧ (∀ p ∈ now, Fit2 p.1 p.2) ∧ (∀ p ∈ told, p.1.length ≤ 32) ∧
  (was.length ≤ n ∧ now.length ≤ n ∧ told.length ≤ n) ∧ (∀ k, k ∉ told.map (·.1) → tget now k = tget was k) ∧ B ≤ s ∧ B ≤ a ∧ B ≤ b ∧ B ≤ c

theorem IsTab.ty {w : World} {b : Nat} {T : Tbl} (h : IsTab w b T) : ∃ cs fr, w.heap[b]? = some (.cells cs 54 fr) := by
  obtain ⟨v, hs, h1, _⟩ := h
  exact ⟨_, _, h1⟩
theorem IsTab.lt {w : World} {b : Nat} {T : Tbl} (h : IsTab w b T) : b < w.heap.size := by
  obtain ⟨cs, fr, h⟩ := h.ty
  exact (Array.getElem?_eq_some_iff.1 h).1
theorem IsRef.then {w w' : World} {s n : Nat} {was now : Tbl} (h : IsRef B w s n was now) (e : Ext [] w w') : IsRef B w' s n was now := by
  obtain ⟨a, b, c, told, h1, h2, h3, h4, h5⟩ := h
  exact ⟨a, b, c, told, (e.block _ (Array.getElem?_eq_some_iff.1 h1).1 (by simp)).trans h1, h2.then e, h3.then e, h4.then e, h5⟩
theorem IsRef.mono {w : World} {s n n' : Nat} {was now : Tbl} (h : IsRef B w s n was now) (hn : n ≤ n') : IsRef B w s n' was now := by
  obtain ⟨a, b, c, told, h1, h2, h3, h4, h5, h6, h7, h8, h9, h10, h11, h12, h13, h14, h15, h16⟩ := h
  exact ⟨a, b, c, told, h1, h2, h3, h4, h5, h6, h7, h8, h9, h10, h11, h12, h13, by omega, h15, h16⟩
/-- while the program's view turns -/
theorem IsRef.ext {w w' : World} {s n : Nat} {was now : Tbl} {M : List Nat} (h : IsRef B w s n was now) (e : Ext M w w') (hM : ∀ b ∈ M, ∀ cs T fr, w.heap[b]? = some (.cells cs T fr) → T ≠ 54 ∧ T ≠ 56 ∧ T ≠ 5 ∧ T ≠ 95) : IsRef B w' s n was now := by
  obtain ⟨a, b, c, told, h1, h2, h3, h4, h5⟩ := h
  have hu : ∀ U, (U = 54 ∨ U = 56 ∨ U = 5 ∨ U = 95) → ∀ x ∈ M, ∀ cs fr, w.heap[x]? ≠ some (.cells cs U fr) := by
    intro U hU x hx cs fr hh
    have := hM x hx cs U fr hh
    rcases hU with rfl | rfl | rfl | rfl
    · exact this.1 rfl
    · exact this.2.1 rfl
    · exact this.2.2.1 rfl
    · exact this.2.2.2 rfl
  have tab : ∀ {x T}, IsTab w x T → IsTab w' x T := fun {x T} ht => ht.ext e (fun hm => by obtain ⟨cs, fr, hh⟩ := ht.ty; exact hu _ (.inl rfl) x hm cs fr hh) (hu _ (by simp)) (hu _ (by simp))
  exact ⟨a, b, c, told, (e.block _ (Array.getElem?_eq_some_iff.1 h1).1 (fun hm => hu _ (by simp) s hm _ _ h1)).trans h1, tab h2, tab h3, tab h4, h5⟩

theorem newTab {w : World} {v : Value} {hs : List (Value × Value)} {T : Tbl} (h : RdP w v hs T) {m : Nat} (hm : m = w.heap.size) : IsTab (w.alloc (.cells #[v] 54)) m T := by
  subst hm
  exact ⟨v, hs, heap_alloc_new w _, h.then ((Ext.refl [] w).alloc _)⟩
theorem nilRd (w : World) : RdP w (.slice none 0 0) [] [] := ⟨Sl.nil w _, trivial⟩

theorem ref_New (w : World) (hB : B ≤ w.heap.size) : Calls Tryz.prog 8 #[.slice none 0 0] w fun e w' => ∃ s, e = .returned (.pointer (some ⟨s, 0, none⟩)) ∧ IsRef B w' s 0 [] [] ∧ Ext [] w w' := by
  go_enter Tryz.func8, Tryz.ntmps8
  go_wp2_with fail
  go_ret
  refine ⟨_, rfl, ⟨w.heap.size, w.heap.size + 1, w.heap.size + 1 + 1, [], ?_, ?_, ?_, ?_, by omega, by omega, by omega, Sorted.nil, Sorted.nil, Sorted.nil, by simp, by simp, by simp, by simp, fun _ _ => rfl, by first | omega | (simp; omega), by omega, by omega, by omega⟩, (((Ext.refl [] w).alloc _).alloc _).alloc _ |>.alloc _⟩
  · have := heap_alloc_new (((w.alloc (.cells #[.slice none 0 0] 54)).alloc (.cells #[.slice none 0 0] 54)).alloc (.cells #[.slice none 0 0] 54)) (.cells #[.pointer (some ⟨w.heap.size, 0, none⟩), .pointer (some ⟨w.heap.size + 1, 0, none⟩), .pointer (some ⟨w.heap.size + 1 + 1, 0, none⟩)] 56)
    simpa using this
  · exact (((newTab (nilRd w) rfl).then ((Ext.refl [] _).alloc _)).then ((Ext.refl [] _).alloc _)).then ((Ext.refl [] _).alloc _)
  · exact ((newTab (nilRd _) (by simp)).then ((Ext.refl [] _).alloc _)).then ((Ext.refl [] _).alloc _)
  · exact (newTab (nilRd _) (by simp)).then ((Ext.refl [] _).alloc _)

theorem ref_Get {w : World} {s n : Nat} {was now : Tbl} (h : IsRef B w s n was now) (kv : Value) (k : Bytes) (hk : Bs U w kv k) :
    Calls Tryz.prog 52 #[.pointer (some ⟨s, 0, none⟩), kv] w fun e w' => ∃ r, e = .returned (.tuple #[r, .bool (tget now k).isSome]) ∧ NewB w w' r ((tget now k).getD []) ∧ Ext [] w w' := by
  obtain ⟨a, b, c, told, hs, h2, h3, h4, h5, h6, h7, h8, h9, h10, h11, h12, h13, h14, h15, h16⟩ := h
  have c1 : w.cell? ⟨s, 1, none⟩ = some (.pointer (some ⟨b, 0, none⟩)) := by simp [World.cell?, hs]
  have hG := tab_Get h3 kv k hk (fun p hp => by have := h12 p hp; simp [Fit2] at this; omega)
  clear hs h2 h3 h4
  go_enter Tryz.func52, Tryz.ntmps52
  go_wp2_with (go_at_call 67; refine hG.mono ?_; rintro e w' ⟨r, rfl, hr, hx⟩)
  go_ret2
  exact ⟨_, rfl, hr, hx⟩

theorem ref_Scan {w : World} {s n : Nat} {was now : Tbl} (h : IsRef B w s n was now) (hn : n ≤ 1099511627776) (pv : Value) (p : Bytes) (hp : Bs U w pv p) :
    Calls Tryz.prog 68 #[.pointer (some ⟨s, 0, none⟩), pv] w fun e w' => ∃ r, e = .returned r ∧ OwnP w.heap.size w' r (tscan now p) ∧ Ext [] w w' := by
  obtain ⟨a, b, c, told, hs, h2, h3, h4, h5, h6, h7, h8, h9, h10, h11, h12, h13, h14, h15, h16⟩ := h
  have c1 : w.cell? ⟨s, 1, none⟩ = some (.pointer (some ⟨b, 0, none⟩)) := by simp [World.cell?, hs]
  have hG := tab_Scan h3 pv p hp (by omega)
  clear hs h2 h3 h4
  go_enter Tryz.func68, Tryz.ntmps68
  go_wp2_with (go_at_call 92; refine hG.mono ?_; rintro e w' ⟨r, rfl, hr, hx⟩)
  go_ret
  exact ⟨_, rfl, hr, hx⟩

theorem tput_length (T : Tbl) (k v : Bytes) : (tput T k v).length ≤ T.length + 1 := by
  induction T with
  | nil => simp [tput]
  | cons p T ih =>
    simp only [tput]
    split
    · simp only [List.length_cons]; omega
    · split <;> simp
theorem key_tput {T : Tbl} (h : Sorted T) (k v k' : Bytes) : k' ∈ (tput T k v).map (·.1) ↔ k' = k ∨ k' ∈ T.map (·.1) := by
  have e : ∀ T : Tbl, k' ∈ T.map (·.1) ↔ (tget T k').isSome = true := by
    intro T
    cases hg : tget T k' with
    | none => simpa using fun x hx => (tget_none_iff.1 hg) _ hx rfl
    | some v => simpa using ⟨v, tget_mem hg⟩
  rw [e, e, tget_tput h]
  by_cases hk : k = k'
  · simp [hk]
  · simp [hk, Ne.symm hk]

theorem isTab_other {w w' : World} {x y : Nat} {T U : Tbl} (h : IsTab w y U) (ht : IsTab w x T) (e : Ext [x] w w') (hne : x ≠ y) : IsTab w' y U := by
  obtain ⟨cs, fr, hx⟩ := ht.ty
  refine h.ext e (by simpa using hne.symm) ?_ ?_
  · intro z hz cs' fr' hh
    simp at hz
    subst hz
    rw [hx] at hh; injection hh with hh; injection hh with _ hh _; revert hh; decide
  · intro z hz cs' fr' hh
    simp at hz
    subst hz
    rw [hx] at hh; injection hh with hh; injection hh with _ hh _; revert hh; decide
theorem RExt.tab {w w' : World} {x : Nat} {T : Tbl} (ht : IsTab w x T) (e : Ext [x] w w') (hB : B ≤ x) : RExt B w w' := by
  obtain ⟨cs, fr, hx⟩ := ht.ty
  exact ⟨[x], fun y hy => by simp at hy; subst hy; exact ⟨hB, cs, fr, .inl hx⟩, e⟩
/-- bytes that outlive what the document's view turns -/
def Stay (B : Nat) (U : TypeId) (w : World) (v : Value) (l : Bytes) : Prop := ∀ W, RExt B w W → Bs U W v l
theorem Stay.now {w : World} {v : Value} {l : Bytes} (h : Stay B U w v l) : Bs U w v l := h _ (RExt.of (Ext.refl _ _))
theorem Stay.later {w w' : World} {v : Value} {l : Bytes} (h : Stay B U w v l) (x : RExt B w w') : Stay B U w' v l := fun W y => h W (x.trans y)
theorem Stay.of {w : World} {v : Value} {l : Bytes} (h : Bs 5 w v l) : Stay B 5 w v l := fun W x => Sl.rext h x (by decide) (by decide)
theorem Stay.old {w0 w : World} {v : Value} {l : Bytes} (h : Bs U w0 v l) (h0 : Ext [] w0 w) : Stay w0.heap.size U w v l := fun W x => h.then (x.old h0)

theorem ref_Put {w : World} {s n : Nat} {was now : Tbl} (h : IsRef B w s n was now) (hn : n ≤ 1099511627776) (kv vv : Value) (k v : Bytes) (hk0 : Stay B U1 w kv k) (hv0 : Stay B U2 w vv v) (hf : Fit2 k v) :
    Calls Tryz.prog 33 #[.pointer (some ⟨s, 0, none⟩), kv, vv] w fun e w' => e = .returned (.int .i64 0) ∧ IsRef B w' s (n + 1) was (tput now k v) ∧ RExt B w w' := by
  obtain ⟨a, b, c, told, hs, h2, h3, h4, h5, h6, h7, h8, h9, h10, h11, h12, h13, h14, h15, h16⟩ := h
  have hk := hk0.now
  have hv := hv0.now
  have hR := ref_Right kv vv k v w hk hv
  have hff := hf
  unfold Fit2 at hf
  rw [decide_eq_true hf] at hR
  have hsl : s < w.heap.size := (Array.getElem?_eq_some_iff.1 hs).1
  have c1 : w.cell? ⟨s, 1, none⟩ = some (.pointer (some ⟨b, 0, none⟩)) := by simp [World.cell?, hs]
  have c2 : w.cell? ⟨s, 2, none⟩ = some (.pointer (some ⟨c, 0, none⟩)) := by simp [World.cell?, hs]
  have hne : ∀ {x T}, IsTab w x T → s ≠ x := fun {x T} ht e => by
    obtain ⟨cs, fr, hx⟩ := ht.ty
    subst e
    rw [hs] at hx; injection hx with hx; injection hx with _ hx _; revert hx; decide
  have hsc := hne h4
  have hsb := hne h3
  have hP := tab_Put h4 kv (.slice none 0 0) k [] hk (Sl.nil w 5) (by omega) (by omega) (by simp)
  have HS := Lib.hid hs
  clear hs
  go_enter Tryz.func33, Tryz.ntmps33
  iterate 30 (first | at_builtin | go_step | skip)
  go_at_call 54
  refine hR.mono ?_
  rintro e w' ⟨rfl, rfl⟩
  dsimp only
  iterate 60 (first | at_builtin | go_step | skip)
  go_at_call 55
  refine hP.mono ?_
  rintro e w1 ⟨rfl, q1, x1⟩
  have d1 := x1.cell (by simpa using hsc) c1
  have h3' := isTab_other h3 h4 x1 (Ne.symm h7)
  have hP2 := tab_Put h3' kv vv k v (hk0 _ (RExt.tab h4 x1 h16.2.2.2)) (hv0 _ (RExt.tab h4 x1 h16.2.2.2)) (by omega) (by omega) (by omega)
  dsimp only
  iterate 60 (first | at_builtin | go_step | skip)
  go_at_call 55
  refine hP2.mono ?_
  rintro e w2 ⟨rfl, q2, x2⟩
  go_wp2_with fail
  go_ret
  refine ⟨rfl, ⟨a, b, c, tput told k [], ?_, isTab_other (isTab_other h2 h4 x1 (Ne.symm h6)) h3' x2 (Ne.symm h5), q2, isTab_other q1 h3' x2 h7, h5, h6, h7, h8, h9.tput k v, h10.tput k [], h11, ?_, ?_, ?_, ?_, h16⟩, (RExt.tab h4 x1 h16.2.2.2).trans (RExt.tab h3' x2 h16.2.2.1)⟩
  · exact ((x2.block s (by have := x1.size; omega) (by simpa using hsb)).trans (x1.block s hsl (by simpa using hsc))).trans HS.out
  · intro p hp
    rcases mem_tput hp with rfl | hp
    · exact hff
    · exact h12 p hp
  · intro p hp
    rcases mem_tput hp with rfl | hp
    · exact hf.2.1
    · exact h13 p hp
  · have := tput_length now k v
    have := tput_length told k []
    omega
  · intro k' hk'
    rw [key_tput h10] at hk'
    rw [tget_tput h9, if_neg (fun e => hk' (.inl e.symm))]
    exact h15 k' (fun hh => hk' (.inr hh))

theorem ref_Put_no {w : World} (sv kv vv : Value) (k v : Bytes) (hk : Bs U1 w kv k) (hv : Bs U2 w vv v) (hf : ¬ Fit2 k v) :
    Calls Tryz.prog 33 #[sv, kv, vv] w fun e w' => e = .returned (.int .i64 1) ∧ w = w' := by
  have hR := ref_Right kv vv k v w hk hv
  unfold Fit2 at hf
  rw [decide_eq_false hf] at hR
  go_enter Tryz.func33, Tryz.ntmps33
  go_wp2_with (go_at_call 54; refine hR.mono ?_; rintro e w' ⟨rfl, rfl⟩)
  go_ret
  exact ⟨rfl, rfl⟩
end Go.Proofs.YtbbfgbkbdhghbaaGreatDoor
