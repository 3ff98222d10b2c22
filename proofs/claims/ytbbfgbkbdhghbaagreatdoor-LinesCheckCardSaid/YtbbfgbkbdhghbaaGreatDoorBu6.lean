/-
  The document's view: New, Get, Scan, Put, Delete.
  Put at both views, whatever comes; what stays while one of them turns.
  chart over a view in memory: Fund, Funds, Object, NewFund.
  An argument's slices, opened: plain laws.
  lines.right and lines.Check over a view in memory.
-/
import Derived.Test.YtbbfgbkbdhghbaaGreatDoorBu5
import Derived.Test.YtbbfgbkbdhghbaaGreatDoorBu1
import Derived.Test.YtbbfgbkbdhghbaaGreatDoorBu4
import Derived.Deep.Slices
set_option linter.unusedVariables false
set_option linter.unusedSimpArgs false
namespace Go.Proofs.YtbbfgbkbdhghbaaGreatDoor
open Go.RowKit
variable {B : Nat} {U U1 U2 : TypeId}

/-- blocks from B on that the document's view alone is made of -/
def RefM (B : Nat) (w : World) (M : List Nat) : Prop := ∀ x ∈ M, B ≤ x ∧ ∃ cs fr, w.heap[x]? = some (.cells cs 54 fr) ∨ w.heap[x]? = some (.cells cs 56 fr)
def RExt (B : Nat) (w w' : World) : Prop := ∃ M, RefM B w M ∧ Ext M w w'
/-- below B all stays -/
theorem RExt.old {w0 w w' : World} (h : RExt w0.heap.size w w') (h0 : Ext [] w0 w) : Ext [] w0 w' := by
  obtain ⟨M, hM, x⟩ := h
  exact h0.trans x (fun k hk hl => absurd hl (Nat.not_lt.2 (hM k hk).1))
theorem RExt.of {w w' : World} (h : Ext [] w w') : RExt B w w' := ⟨[], by simp [RefM], h⟩
theorem RExt.size {w w' : World} (h : RExt B w w') : w.heap.size ≤ w'.heap.size := by obtain ⟨_, _, h⟩ := h; exact h.size
theorem RExt.trans {w w1 w2 : World} (h : RExt B w w1) (h' : RExt B w1 w2) : RExt B w w2 := by
  obtain ⟨M, hM, x⟩ := h
  obtain ⟨M', hM', x'⟩ := h'
  refine ⟨M ++ M'.filter (fun k => decide (k < w.heap.size)), ?_, (x.mono (M' := M ++ M'.filter (fun k => decide (k < w.heap.size))) (by simp +contextual)).trans x' (fun k hk hl => by simp [hk, hl])⟩
  intro k hk
  rcases List.mem_append.1 hk with hk | hk
  · exact hM k hk
  · obtain ⟨h1, h2⟩ := List.mem_filter.1 hk
    have h2 : k < w.heap.size := by simpa using h2
    by_cases hm : k ∈ M
    · exact hM k hm
    · obtain ⟨h0, cs, fr, h3⟩ := hM' k h1
      rw [x.block k h2 hm] at h3
      exact ⟨h0, cs, fr, h3⟩
theorem RExt.then {w w1 w2 : World} (h : RExt B w w1) (h' : Ext [] w1 w2) : RExt B w w2 := h.trans (RExt.of h')
theorem RefM.ne {w : World} {M : List Nat} (h : RefM B w M) {U : TypeId} (h1 : 54 ≠ U) (h2 : 56 ≠ U) : ∀ x ∈ M, ∀ cs fr, w.heap[x]? ≠ some (.cells cs U fr) := by
  intro x hx cs fr hh
  obtain ⟨_, cs', fr', h | h⟩ := h x hx
  · rw [h] at hh; injection hh with hh; injection hh with _ hh _; exact h1 hh
  · rw [h] at hh; injection hh with hh; injection hh with _ hh _; exact h2 hh
theorem Sl.rext {w w' : World} {T : TypeId} {v : Value} {n : Nat} {xs : List Value} (h : Sl w T v n xs) (x : RExt B w w') (h1 : 54 ≠ T) (h2 : 56 ≠ T) : Sl w' T v n xs := by
  obtain ⟨M, hM, e⟩ := x
  exact h.ext e (hM.ne h1 h2)
theorem IsView.rext {w w' : World} {V : VW} {n : Nat} {was now : Tbl} (h : IsView w V n was now) (x : RExt B w w') : IsView w' V n was now := by
  obtain ⟨M, hM, e⟩ := x
  obtain ⟨_, _, _, _, h1, h2, _⟩ := h.maps
  refine h.ext e (fun b hb => ⟨fun hh => ?_, fun hh => ?_, fun hh => ?_⟩) (hM.ne (by decide) (by decide))
  · exact hM.ne (U := 50) (by decide) (by decide) b hb _ _ (hh ▸ h.cells)
  · obtain ⟨_, cs, fr, hq | hq⟩ := hM b hb
    · exact h1.ne_cells _ _ _ (hh ▸ hq)
    · exact h1.ne_cells _ _ _ (hh ▸ hq)
  · obtain ⟨_, cs, fr, hq | hq⟩ := hM b hb
    · exact h2.ne_cells _ _ _ (hh ▸ hq)
    · exact h2.ne_cells _ _ _ (hh ▸ hq)

/-- block s is a view of the document's: at its last commit was, now now -/
def IsRef (B : Nat) (w : World) (s n : Nat) (was now : Tbl) : Prop := ∃ a b c told, w.heap[s]? = some (.cells #[.pointer (some ⟨a, 0, none⟩), .pointer (some ⟨b, 0, none⟩), .pointer (some ⟨c, 0, none⟩)] 56 (0, 0)) ∧
  IsTab w a was ∧ IsTab w b now ∧ IsTab w c told ∧ a ≠ b ∧ a ≠ c ∧ b ≠ c ∧ Sorted was ∧ Sorted now ∧ Sorted told ∧ (∀ p ∈ was, Fit2 p.1 p.2) ∧ (∀ p ∈ now, Fit2 p.1 p.2) ∧ (∀ p ∈ told, p.1.length ≤ 32) ∧
  (was.length ≤ n ∧ now.length ≤ n ∧ told.length ≤ n) ∧ (∀ k, k ∉ told.map (·.1) → tget now k = tget was k) ∧ B ≤ s ∧ B ≤ a ∧ B ≤ b ∧ B ≤ c

theorem IsTab.ty {w : World} {b : Nat} {T : Tbl} (h : IsTab w b T) : ∃ cs fr, w.heap[b]? = some (.cells cs 54 fr) := by
  obtain ⟨v, hs, h1, _⟩ := h
  exact ⟨_, _, h1⟩
theorem IsTab.lt {w : World} {b : Nat} {T : Tbl} (h : IsTab w b T) : b < w.heap.size := by
  obtain ⟨cs, fr, h⟩ := h.ty
  exact (Array.getElem?_eq_some_iff.1 h).1
theorem IsRef.then {w w' : World} {s n : Nat} {was now : Tbl} (h : IsRef B w s n was now) (e : Ext [] w w') : IsRef B w' s n was now := by
  obtain ⟨a, b, c, told, h1, h2, h3, h4, h5⟩ := h
  exact ⟨a, b, c, told, (e.block _ (Array.getElem?_eq_some_iff.1 h1).1 (by simp)).trans h1, h2.then e, h3.then e, h4.then e, h5⟩
theorem IsRef.mono {w : World} {s n n' : Nat} {was now : Tbl} (h : IsRef B w s n was now) (hn : n ≤ n') : IsRef B w s n' was now := by
  obtain ⟨a, b, c, told, h1, h2, h3, h4, h5, h6, h7, h8, h9, h10, h11, h12, h13, h14, h15, h16⟩ := h
  exact ⟨a, b, c, told, h1, h2, h3, h4, h5, h6, h7, h8, h9, h10, h11, h12, h13, by omega, h15, h16⟩
/-- while the program's view turns -/
theorem IsRef.ext {w w' : World} {s n : Nat} {was now : Tbl} {M : List Nat} (h : IsRef B w s n was now) (e : Ext M w w') (hM : ∀ b ∈ M, ∀ cs T fr, w.heap[b]? = some (.cells cs T fr) → T ≠ 54 ∧ T ≠ 56 ∧ T ≠ 5 ∧ T ≠ 95) : IsRef B w' s n was now := by
  obtain ⟨a, b, c, told, h1, h2, h3, h4, h5⟩ := h
  have hu : ∀ U, (U = 54 ∨ U = 56 ∨ U = 5 ∨ U = 95) → ∀ x ∈ M, ∀ cs fr, w.heap[x]? ≠ some (.cells cs U fr) := by
    intro U hU x hx cs fr hh
    have := hM x hx cs U fr hh
    rcases hU with rfl | rfl | rfl | rfl
    · exact this.1 rfl
    · exact this.2.1 rfl
    · exact this.2.2.1 rfl
    · exact this.2.2.2 rfl
  have tab : ∀ {x T}, IsTab w x T → IsTab w' x T := fun {x T} ht => ht.ext e (fun hm => by obtain ⟨cs, fr, hh⟩ := ht.ty; exact hu _ (.inl rfl) x hm cs fr hh) (hu _ (by simp)) (hu _ (by simp))
  exact ⟨a, b, c, told, (e.block _ (Array.getElem?_eq_some_iff.1 h1).1 (fun hm => hu _ (by simp) s hm _ _ h1)).trans h1, tab h2, tab h3, tab h4, h5⟩

theorem newTab {w : World} {v : Value} {hs : List (Value × Value)} {T : Tbl} (h : RdP w v hs T) {m : Nat} (hm : m = w.heap.size) : IsTab (w.alloc (.cells #[v] 54)) m T := by
  subst hm
  exact ⟨v, hs, heap_alloc_new w _, h.then ((Ext.refl [] w).alloc _)⟩
theorem nilRd (w : World) : RdP w (.slice none 0 0) [] [] := ⟨Sl.nil w _, trivial⟩

theorem ref_New (w : World) (hB : B ≤ w.heap.size) : Calls Tryz.prog 8 #[.slice none 0 0] w fun e w' => ∃ s, e = .returned (.pointer (some ⟨s, 0, none⟩)) ∧ IsRef B w' s 0 [] [] ∧ Ext [] w w' := by
  go_enter Tryz.func8, Tryz.ntmps8
  go_wp2_with fail
  go_ret
  refine ⟨_, rfl, ⟨w.heap.size, w.heap.size + 1, w.heap.size + 1 + 1, [], ?_, ?_, ?_, ?_, by omega, by omega, by omega, Sorted.nil, Sorted.nil, Sorted.nil, by simp, by simp, by simp, by simp, fun _ _ => rfl, by first | omega | (simp; omega), by omega, by omega, by omega⟩, (((Ext.refl [] w).alloc _).alloc _).alloc _ |>.alloc _⟩
  · have := heap_alloc_new (((w.alloc (.cells #[.slice none 0 0] 54)).alloc (.cells #[.slice none 0 0] 54)).alloc (.cells #[.slice none 0 0] 54)) (.cells #[.pointer (some ⟨w.heap.size, 0, none⟩), .pointer (some ⟨w.heap.size + 1, 0, none⟩), .pointer (some ⟨w.heap.size + 1 + 1, 0, none⟩)] 56)
    simpa using this
  · exact (((newTab (nilRd w) rfl).then ((Ext.refl [] _).alloc _)).then ((Ext.refl [] _).alloc _)).then ((Ext.refl [] _).alloc _)
  · exact ((newTab (nilRd _) (by simp)).then ((Ext.refl [] _).alloc _)).then ((Ext.refl [] _).alloc _)
  · exact (newTab (nilRd _) (by simp)).then ((Ext.refl [] _).alloc _)

theorem ref_Get {w : World} {s n : Nat} {was now : Tbl} (h : IsRef B w s n was now) (kv : Value) (k : Bytes) (hk : Bs U w kv k) :
    Calls Tryz.prog 52 #[.pointer (some ⟨s, 0, none⟩), kv] w fun e w' => ∃ r, e = .returned (.tuple #[r, .bool (tget now k).isSome]) ∧ NewB w w' r ((tget now k).getD []) ∧ Ext [] w w' := by
  obtain ⟨a, b, c, told, hs, h2, h3, h4, h5, h6, h7, h8, h9, h10, h11, h12, h13, h14, h15, h16⟩ := h
  have c1 : w.cell? ⟨s, 1, none⟩ = some (.pointer (some ⟨b, 0, none⟩)) := by simp [World.cell?, hs]
  have hG := tab_Get h3 kv k hk (fun p hp => by have := h12 p hp; simp [Fit2] at this; omega)
  clear hs h2 h3 h4
  go_enter Tryz.func52, Tryz.ntmps52
  go_wp2_with (go_at_call 67; refine hG.mono ?_; rintro e w' ⟨r, rfl, hr, hx⟩)
  go_ret2
  exact ⟨_, rfl, hr, hx⟩

theorem ref_Scan {w : World} {s n : Nat} {was now : Tbl} (h : IsRef B w s n was now) (hn : n ≤ 1099511627776) (pv : Value) (p : Bytes) (hp : Bs U w pv p) :
    Calls Tryz.prog 68 #[.pointer (some ⟨s, 0, none⟩), pv] w fun e w' => ∃ r, e = .returned r ∧ OwnP w.heap.size w' r (tscan now p) ∧ Ext [] w w' := by
  obtain ⟨a, b, c, told, hs, h2, h3, h4, h5, h6, h7, h8, h9, h10, h11, h12, h13, h14, h15, h16⟩ := h
  have c1 : w.cell? ⟨s, 1, none⟩ = some (.pointer (some ⟨b, 0, none⟩)) := by simp [World.cell?, hs]
  have hG := tab_Scan h3 pv p hp (by omega)
  clear hs h2 h3 h4
  go_enter Tryz.func68, Tryz.ntmps68
  go_wp2_with (go_at_call 92; refine hG.mono ?_; rintro e w' ⟨r, rfl, hr, hx⟩)
  go_ret
  exact ⟨_, rfl, hr, hx⟩

theorem tput_length (T : Tbl) (k v : Bytes) : (tput T k v).length ≤ T.length + 1 := by
  induction T with
  | nil => simp [tput]
  | cons p T ih =>
    simp only [tput]
    split
    · simp only [List.length_cons]; omega
    · split <;> simp
theorem key_tput {T : Tbl} (h : Sorted T) (k v k' : Bytes) : k' ∈ (tput T k v).map (·.1) ↔ k' = k ∨ k' ∈ T.map (·.1) := by
  have e : ∀ T : Tbl, k' ∈ T.map (·.1) ↔ (tget T k').isSome = true := by
    intro T
    cases hg : tget T k' with
    | none => simpa using fun x hx => (tget_none_iff.1 hg) _ hx rfl
    | some v => simpa using ⟨v, tget_mem hg⟩
  rw [e, e, tget_tput h]
  by_cases hk : k = k'
  · simp [hk]
  · simp [hk, Ne.symm hk]

theorem isTab_other {w w' : World} {x y : Nat} {T U : Tbl} (h : IsTab w y U) (ht : IsTab w x T) (e : Ext [x] w w') (hne : x ≠ y) : IsTab w' y U := by
  obtain ⟨cs, fr, hx⟩ := ht.ty
  refine h.ext e (by simpa using hne.symm) ?_ ?_
  · intro z hz cs' fr' hh
    simp at hz
    subst hz
    rw [hx] at hh; injection hh with hh; injection hh with _ hh _; revert hh; decide
  · intro z hz cs' fr' hh
    simp at hz
    subst hz
    rw [hx] at hh; injection hh with hh; injection hh with _ hh _; revert hh; decide
theorem RExt.tab {w w' : World} {x : Nat} {T : Tbl} (ht : IsTab w x T) (e : Ext [x] w w') (hB : B ≤ x) : RExt B w w' := by
  obtain ⟨cs, fr, hx⟩ := ht.ty
  exact ⟨[x], fun y hy => by simp at hy; subst hy; exact ⟨hB, cs, fr, .inl hx⟩, e⟩
/-- bytes that outlive what the document's view turns -/
def Stay (B : Nat) (U : TypeId) (w : World) (v : Value) (l : Bytes) : Prop := ∀ W, RExt B w W → Bs U W v l
theorem Stay.now {w : World} {v : Value} {l : Bytes} (h : Stay B U w v l) : Bs U w v l := h _ (RExt.of (Ext.refl _ _))
theorem Stay.later {w w' : World} {v : Value} {l : Bytes} (h : Stay B U w v l) (x : RExt B w w') : Stay B U w' v l := fun W y => h W (x.trans y)
theorem Stay.of {w : World} {v : Value} {l : Bytes} (h : Bs 5 w v l) : Stay B 5 w v l := fun W x => Sl.rext h x (by decide) (by decide)
theorem Stay.old {w0 w : World} {v : Value} {l : Bytes} (h : Bs U w0 v l) (h0 : Ext [] w0 w) : Stay w0.heap.size U w v l := fun W x => h.then (x.old h0)

theorem ref_Put {w : World} {s n : Nat} {was now : Tbl} (h : IsRef B w s n was now) (hn : n ≤ 1099511627776) (kv vv : Value) (k v : Bytes) (hk0 : Stay B U1 w kv k) (hv0 : Stay B U2 w vv v) (hf : Fit2 k v) :
    Calls Tryz.prog 33 #[.pointer (some ⟨s, 0, none⟩), kv, vv] w fun e w' => e = .returned (.int .i64 0) ∧ IsRef B w' s (n + 1) was (tput now k v) ∧ RExt B w w' := by
  obtain ⟨a, b, c, told, hs, h2, h3, h4, h5, h6, h7, h8, h9, h10, h11, h12, h13, h14, h15, h16⟩ := h
  have hk := hk0.now
  have hv := hv0.now
  have hR := ref_Right kv vv k v w hk hv
  have hff := hf
  unfold Fit2 at hf
  rw [decide_eq_true hf] at hR
  have hsl : s < w.heap.size := (Array.getElem?_eq_some_iff.1 hs).1
  have c1 : w.cell? ⟨s, 1, none⟩ = some (.pointer (some ⟨b, 0, none⟩)) := by simp [World.cell?, hs]
  have c2 : w.cell? ⟨s, 2, none⟩ = some (.pointer (some ⟨c, 0, none⟩)) := by simp [World.cell?, hs]
  have hne : ∀ {x T}, IsTab w x T → s ≠ x := fun {x T} ht e => by
    obtain ⟨cs, fr, hx⟩ := ht.ty
    subst e
    rw [hs] at hx; injection hx with hx; injection hx with _ hx _; revert hx; decide
  have hsc := hne h4
  have hsb := hne h3
  have hP := tab_Put h4 kv (.slice none 0 0) k [] hk (Sl.nil w 5) (by omega) (by omega) (by simp)
  have HS := Lib.hid hs
  clear hs
  go_enter Tryz.func33, Tryz.ntmps33
  iterate 30 (first | at_builtin | go_step | skip)
  go_at_call 54
  refine hR.mono ?_
  rintro e w' ⟨rfl, rfl⟩
  dsimp only
  iterate 60 (first | at_builtin | go_step | skip)
  go_at_call 55
  refine hP.mono ?_
  rintro e w1 ⟨rfl, q1, x1⟩
  have d1 := x1.cell (by simpa using hsc) c1
  have h3' := isTab_other h3 h4 x1 (Ne.symm h7)
  have hP2 := tab_Put h3' kv vv k v (hk0 _ (RExt.tab h4 x1 h16.2.2.2)) (hv0 _ (RExt.tab h4 x1 h16.2.2.2)) (by omega) (by omega) (by omega)
  dsimp only
  iterate 60 (first | at_builtin | go_step | skip)
  go_at_call 55
  refine hP2.mono ?_
  rintro e w2 ⟨rfl, q2, x2⟩
  go_wp2_with fail
  go_ret
  refine ⟨rfl, ⟨a, b, c, tput told k [], ?_, isTab_other (isTab_other h2 h4 x1 (Ne.symm h6)) h3' x2 (Ne.symm h5), q2, isTab_other q1 h3' x2 h7, h5, h6, h7, h8, h9.tput k v, h10.tput k [], h11, ?_, ?_, ?_, ?_, h16⟩, (RExt.tab h4 x1 h16.2.2.2).trans (RExt.tab h3' x2 h16.2.2.1)⟩
  · exact ((x2.block s (by have := x1.size; omega) (by simpa using hsb)).trans (x1.block s hsl (by simpa using hsc))).trans HS.out
  · intro p hp
    rcases mem_tput hp with rfl | hp
    · exact hff
    · exact h12 p hp
  · intro p hp
    rcases mem_tput hp with rfl | hp
    · exact hf.2.1
    · exact h13 p hp
  · have := tput_length now k v
    have := tput_length told k []
    omega
  · intro k' hk'
    rw [key_tput h10] at hk'
    rw [tget_tput h9, if_neg (fun e => hk' (.inl e.symm))]
    exact h15 k' (fun hh => hk' (.inr hh))

theorem ref_Put_no {w : World} (sv kv vv : Value) (k v : Bytes) (hk : Bs U1 w kv k) (hv : Bs U2 w vv v) (hf : ¬ Fit2 k v) :
    Calls Tryz.prog 33 #[sv, kv, vv] w fun e w' => e = .returned (.int .i64 1) ∧ w = w' := by
  have hR := ref_Right kv vv k v w hk hv
  unfold Fit2 at hf
  rw [decide_eq_false hf] at hR
  go_enter Tryz.func33, Tryz.ntmps33
  go_wp2_with (go_at_call 54; refine hR.mono ?_; rintro e w' ⟨rfl, rfl⟩)
  go_ret
  exact ⟨rfl, rfl⟩
end Go.Proofs.YtbbfgbkbdhghbaaGreatDoor

set_option linter.unusedVariables false
set_option linter.unusedSimpArgs false
namespace Go.Proofs.YtbbfgbkbdhghbaaGreatDoor
open Go.RowKit
variable {B : Nat}

theorem IsView.viewM {w : World} {V : VW} {n : Nat} {was now : Tbl} (h : IsView w V n was now) : ∀ b ∈ V.M, ∀ cs T fr, w.heap[b]? = some (.cells cs T fr) → T ≠ 54 ∧ T ≠ 56 ∧ T ≠ 5 ∧ T ≠ 95 := by
  intro b hb cs T fr hh
  refine ⟨?_, ?_, ?_, ?_⟩
  all_goals
    rintro rfl
    exact h.nobytes (by decide) b hb cs fr hh
theorem IsRef.vext {w w' : World} {s n n' : Nat} {V : VW} {was now was' now' : Tbl} (h : IsRef B w s n was now) (hv : IsView w V n' was' now') (e : Ext V.M w w') : IsRef B w' s n was now := h.ext e hv.viewM

theorem RExt.at {w w' : World} {k : Nat} {cs : Array Value} {T : TypeId} {fr : Nat × Nat} (x : RExt B w w') (h : w.heap[k]? = some (.cells cs T fr)) (h1 : T ≠ 54) (h2 : T ≠ 56) : w'.heap[k]? = some (.cells cs T fr) := by
  obtain ⟨M, hM, e⟩ := x
  refine (e.block k (Array.getElem?_eq_some_iff.1 h).1 (fun hm => ?_)).trans h
  obtain ⟨_, cs', fr', hh | hh⟩ := hM k hm
  · rw [h] at hh; injection hh with hh; injection hh with _ hh _; exact h1 hh
  · rw [h] at hh; injection hh with hh; injection hh with _ hh _; exact h2 hh
/-! the calls, whatever comes -/
instance (k v : Bytes) : Decidable (Fit2 k v) := by unfold Fit2; infer_instance
def putE (k v : Bytes) : Int := if Fit2 k v then 0 else 1
def putT (now : Tbl) (k v : Bytes) : Tbl := if Fit2 k v then tput now k v else now
theorem old_view {w0 w w' : World} {V : VW} (h0 : Ext [] w0 w) (hV : ∀ b ∈ V.M, w0.heap.size ≤ b) (x : Ext V.M w w') : Ext [] w0 w' := h0.trans x (fun b hb hlt => absurd hlt (Nat.not_lt.2 (hV b hb)))
theorem Ext.of_old {w w' : World} {V : VW} (x : Ext [] w w') : Ext V.M w w' := x.mono (by simp)
section
variable {U U1 U2 : TypeId} {w : World} {V : VW} {s n : Nat} {was now : Tbl}
theorem view_PutA (h : IsView w V n was now) (kv vv : Value) (k v : Bytes) (hk : StayV V U1 w kv k) (hv : Bs U2 w vv v) :
    Calls Tryz.prog 27 #[.pointer (some ⟨V.s, 0, none⟩), kv, vv] w fun e w' => e = .returned (.int .i64 (putE k v)) ∧ IsView w' V (n + 1) was (putT now k v) ∧ Ext V.M w w' := by
  by_cases hf : Fit2 k v
  · refine (view_Put h kv vv k v hk hv hf).mono ?_
    rintro e w' ⟨rfl, h1, x⟩
    exact ⟨by rw [putE, if_pos hf], by rw [putT, if_pos hf]; exact h1, x⟩
  · refine (view_Put_no h kv vv k v hk.now hv hf).mono ?_
    rintro e w' ⟨rfl, rfl⟩
    exact ⟨by rw [putE, if_neg hf], by rw [putT, if_neg hf]; exact h.mono (by omega), Ext.refl _ _⟩
theorem ref_PutA (h : IsRef B w s n was now) (hn : n ≤ 1099511627776) (kv vv : Value) (k v : Bytes) (hk : Stay B U1 w kv k) (hv : Stay B U2 w vv v) :
    Calls Tryz.prog 33 #[.pointer (some ⟨s, 0, none⟩), kv, vv] w fun e w' => e = .returned (.int .i64 (putE k v)) ∧ IsRef B w' s (n + 1) was (putT now k v) ∧ RExt B w w' := by
  by_cases hf : Fit2 k v
  · refine (ref_Put h hn kv vv k v hk hv hf).mono ?_
    rintro e w' ⟨rfl, h1, x⟩
    exact ⟨by rw [putE, if_pos hf], by rw [putT, if_pos hf]; exact h1, x⟩
  · refine (ref_Put_no _ kv vv k v hk.now hv.now hf).mono ?_
    rintro e w' ⟨rfl, rfl⟩
    exact ⟨by rw [putE, if_neg hf], by rw [putT, if_neg hf]; exact h.mono (by omega), RExt.of (Ext.refl _ _)⟩
end
end Go.Proofs.YtbbfgbkbdhghbaaGreatDoor

set_option linter.unusedVariables false
set_option linter.unusedSimpArgs false
namespace Go.Proofs.YtbbfgbkbdhghbaaGreatDoor
open Go.RowKit
variable {w : World} {V : VW} {n : Nat} {was now : Tbl}

theorem chart_Fund (h : IsView w V n was now) (f : Int) :
    Calls Tryz.prog 25 #[.pointer (some ⟨V.s, 0, none⟩), .int .i64 f] w fun e w' => e = .returned (.tuple #[.string (str ((tget now (key 70 [f])).getD [])), .bool (tget now (key 70 [f])).isSome]) ∧ Ext [] w w' := by
  have hlit := lit_i1 w f
  have x0 := (Ext.refl [] w).alloc (.cells #[.int .i64 f] 3)
  have hK := keys_Key 70 _ [f] _ hlit (by simp)
  go_enter Tryz.func25, Tryz.ntmps25
  iterate 60 (first | at_builtin | go_step | skip)
  go_at_call 28
  refine hK.mono ?_
  rintro e w1 ⟨r1, rfl, k1, x1⟩
  dsimp only
  iterate 60 (first | at_builtin | go_step | skip)
  go_at_call 47
  refine (view_Get (h.then (x0.then x1)) _ (key 70 [f]) k1.bs).mono ?_
  rintro e w2 ⟨r2, rfl, k2, x2⟩
  have hst := run_str (P := Tryz.prog) (w := w2) Tryz.underlying63 Tryz.underlying5 Tryz.underlying9 k2.bs
  have hst2 := run_str (P := Tryz.prog) (w := w2.drew) Tryz.underlying63 Tryz.underlying5 Tryz.underlying9 (k2.bs.then (Ext.refl [] w2).drew)
  dsimp only
  go_wp2_with fail
  go_ret2
  exact ⟨rfl, (x0.then x1).then x2⟩

theorem chart_Funds (h : IsView w V n was now) (hn : n ≤ 1048576) :
    Calls Tryz.prog 26 #[.pointer (some ⟨V.s, 0, none⟩)] w fun e w' => ∃ r, e = .returned r ∧ NewI w w' r (allNums now 70) ∧ Ext [] w w' := by
  have hA := chart_all h hn 70
  go_enter Tryz.func26, Tryz.ntmps26
  go_wp2_with (go_at_call 48; refine hA.mono ?_; rintro e w1 ⟨r1, rfl, k1, x1⟩)
  go_ret
  exact ⟨_, rfl, k1, x1⟩

theorem chart_Object (h : IsView w V n was now) (o : Int) :
    Calls Tryz.prog 36 #[.pointer (some ⟨V.s, 0, none⟩), .int .i64 o] w fun e w' => e = .returned (.bool (fixedO o || (tget now (key 79 [o])).isSome)) ∧ Ext [] w w' := by
  have hlit := lit_i1 w o
  have x0 := (Ext.refl [] w).alloc (.cells #[.int .i64 o] 3)
  have hK := keys_Key 79 _ [o] _ hlit (by simp)
  have hF := code_Fixed o w
  cases hq : fixedO o with
  | true =>
    rw [hq] at hF
    go_enter Tryz.func36, Tryz.ntmps36
    go_wp2_with (go_at_call 57; refine hF.mono ?_; rintro e w1 ⟨rfl, rfl⟩)
    go_ret
    exact ⟨rfl, Ext.refl _ _⟩
  | false =>
    rw [hq] at hF
    go_enter Tryz.func36, Tryz.ntmps36
    go_wp2_with (first
      | (go_at_call 57; refine hF.mono ?_; rintro e w1 ⟨rfl, rfl⟩)
      | (go_at_call 28; refine hK.mono ?_; rintro e w1 ⟨r1, rfl, k1, x1⟩)
      | (go_at_call 47; refine (view_Get (h.then (x0.then x1)) _ (key 79 [o]) k1.bs).mono ?_; rintro e w2 ⟨r2, rfl, k2, x2⟩))
    go_ret
    exact ⟨ret_bool (by simp), (x0.then x1).then x2⟩

def newFund (now : Tbl) (f : Int) (name : Bytes) : Int × Tbl :=
  if !(fundOk f && nameOk name) then (1, now) else if (tget now (key 70 [f])).isSome then (8, now) else if 40 ≤ (allNums now 70).length then (11, now) else (putE (key 70 [f]) name, putT now (key 70 [f]) name)

theorem chart_NewFund (h : IsView w V n was now) (hn : n ≤ 1048576) (f : Int) (name : Bytes) (hl : name.length ≤ 1048576) :
    Calls Tryz.prog 9 #[.pointer (some ⟨V.s, 0, none⟩), .int .i64 f, .string (str name)] w fun e w' => e = .returned (.int .i64 (newFund now f name).1) ∧ IsView w' V (n + 1) was (newFund now f name).2 ∧ Ext V.M w w' := by
  have hF := code_Fund f w
  have hN := chart_Name name w hl
  cases ha : fundOk f with
  | false =>
    have HE := Lib.hid (show newFund now f name = (1, now) by simp [newFund, ha])
    rw [ha] at hF
    go_enter Tryz.func9, Tryz.ntmps9
    go_wp2_with (go_at_call 23; refine hF.mono ?_; rintro e w1 ⟨rfl, rfl⟩)
    go_ret
    rw [HE.out]
    exact ⟨rfl, h.mono (by omega), Ext.refl _ _⟩
  | true =>
    rw [ha] at hF
    cases hb : nameOk name with
    | false =>
      have HE := Lib.hid (show newFund now f name = (1, now) by simp [newFund, ha, hb])
      rw [hb] at hN
      go_enter Tryz.func9, Tryz.ntmps9
      go_wp2_with (first
        | (go_at_call 23; refine hF.mono ?_; rintro e w1 ⟨rfl, rfl⟩)
        | (go_at_call 24; refine hN.mono ?_; rintro e w1 ⟨rfl, x1⟩))
      go_ret
      rw [HE.out]
      exact ⟨rfl, (h.then x1).mono (by omega), x1.of_old⟩
    | true =>
      rw [hb] at hN
      cases hc : (tget now (key 70 [f])).isSome with
      | true =>
        have HE := Lib.hid (show newFund now f name = (8, now) by simp [newFund, ha, hb, hc])
        go_enter Tryz.func9, Tryz.ntmps9
        go_wp2_with (first
          | (go_at_call 23; refine hF.mono ?_; rintro e w1 ⟨rfl, rfl⟩)
          | (go_at_call 24; refine hN.mono ?_; rintro e w1 ⟨rfl, x1⟩)
          | (go_at_call 25; refine (chart_Fund (h.then x1) f).mono ?_; rintro e w2 ⟨rfl, x2⟩; rw [hc]))
        go_ret
        rw [HE.out]
        exact ⟨rfl, (h.then (x1.then x2)).mono (by omega), (x1.then x2).of_old⟩
      | false =>
        by_cases hd : 40 ≤ (allNums now 70).length
        · have HE := Lib.hid (show newFund now f name = (11, now) by simp [newFund, ha, hb, hc, hd])
          have hd' : (40 : Int) ≤ ((allNums now 70).length : Int) := by omega
          go_enter Tryz.func9, Tryz.ntmps9
          go_wp2_with (first
            | (go_at_call 23; refine hF.mono ?_; rintro e w1 ⟨rfl, rfl⟩)
            | (go_at_call 24; refine hN.mono ?_; rintro e w1 ⟨rfl, x1⟩)
            | (go_at_call 25; refine (chart_Fund (h.then x1) f).mono ?_; rintro e w2 ⟨rfl, x2⟩; rw [hc])
            | (go_at_call 26; refine (chart_Funds (h.then (x1.then x2)) hn).mono ?_; rintro e w3 ⟨r3, rfl, k3, x3⟩; obtain ⟨p3, c3, rfl, _, _⟩ := own_size k3))
          go_ret
          rw [HE.out]
          exact ⟨rfl, (h.then ((x1.then x2).then x3)).mono (by omega), ((x1.then x2).then x3).of_old⟩
        · have HE := Lib.hid (show newFund now f name = (putE (key 70 [f]) name, putT now (key 70 [f]) name) by simp [newFund, ha, hb, hc, hd])
          have hd' : ¬ (40 : Int) ≤ ((allNums now 70).length : Int) := by omega
          have hcv := run_cvb name
          clear hd
          go_enter Tryz.func9, Tryz.ntmps9
          go_wp2_with (first
            | (go_at_call 23; refine hF.mono ?_; rintro e w1 ⟨rfl, rfl⟩)
            | (go_at_call 24; refine hN.mono ?_; rintro e w1 ⟨rfl, x1⟩)
            | (go_at_call 25; refine (chart_Fund (h.then x1) f).mono ?_; rintro e w2 ⟨rfl, x2⟩; rw [hc])
            | (go_at_call 26; refine (chart_Funds (h.then (x1.then x2)) hn).mono ?_; rintro e w3 ⟨r3, rfl, k3, x3⟩; obtain ⟨p3, c3, rfl, _, _⟩ := own_size k3)
            | (go_at_call 28; refine (keys_Key 70 _ [f] _ (lit_i1 _ f) (by simp)).mono ?_; rintro e w4 ⟨r4, rfl, k4, x4⟩))
          have xx := ((((x1.then x2).then x3).then ((Ext.refl [] w3).alloc (.cells #[.int .i64 f] 3))).then x4).then (cv_ext name w4)
          have hv := h.then xx
          refine (view_PutA hv _ _ (key 70 [f]) name (StayV.of (k4.bs.then (cv_ext name w4)) hv) (cv_bs name w4 (by omega))).mono ?_
          rintro e w5 ⟨rfl, h5, x5⟩
          go_wp2_with fail
          go_ret
          rw [HE.out]
          exact ⟨rfl, h5, xx.of_old.same x5⟩
end Go.Proofs.YtbbfgbkbdhghbaaGreatDoor

set_option linter.unusedVariables false
set_option linter.unusedSimpArgs false
namespace Go.Proofs.YtbbfgbkbdhghbaaGreatDoor
open Go.RowKit Go.ChangeShapes Go.WideShapes

theorem cell_at {w : World} {a : Addr} {v : Value} (h : w.cell? a = some v) : a.spot = none ∧ ∃ cs T fr, w.heap[a.block]? = some (.cells cs T fr) ∧ cs[a.off]? = some v := by
  unfold World.cell? at h
  split at h
  · rename_i cs T fr hh
    split at h
    · simp at h
    · rename_i hs
      exact ⟨by simpa using hs, cs, T, fr, hh, h⟩
  · simp at h

theorem row_of_cells {w : World} {b off : Nat} {xs : List Value} (hx : xs ≠ []) (h : ∀ j, j < xs.length → w.cell? ⟨b, off + j, none⟩ = xs[j]?) : ∃ U, Row w U b off xs := by
  have hpos : 0 < xs.length := List.length_pos_iff.2 hx
  have h0 := h 0 hpos
  rw [List.getElem?_eq_getElem hpos] at h0
  obtain ⟨_, cs, T, fr, hh, _⟩ := cell_at h0
  have hc : ∀ j, j < xs.length → cs[off + j]? = xs[j]? := fun j hj => by
    have := h j hj
    simpa [World.cell?, hh] using this
  have hsz : off + xs.length ≤ cs.size := by
    have := hc (xs.length - 1) (by omega)
    rw [List.getElem?_eq_getElem (show xs.length - 1 < xs.length by omega)] at this
    have := (Array.getElem?_eq_some_iff.1 this).1
    omega
  refine ⟨T, cs, fr, hh, hsz, ?_⟩
  apply List.ext_getElem?
  intro j
  rw [List.getElem?_take]
  split
  · rename_i hj
    rw [List.getElem?_drop, Array.getElem?_toList, hc j hj]
  · rename_i hj
    rw [List.getElem?_eq_none (by omega)]

theorem flatten_get {k : Nat} (hk : 0 < k) : ∀ (l : List (List Value)), (∀ c ∈ l, c.length = k) → ∀ (j : Nat), l.flatten[j]? = (l[j / k]?).bind (·[j % k]?)
  | [], _, j => by simp
  | c :: l, h, j => by
    have hc : c.length = k := h c (.head _)
    have ih := flatten_get hk l (fun c' hc' => h c' (.tail _ hc'))
    rw [List.flatten_cons]
    by_cases hj : j < k
    · rw [List.getElem?_append_left (by omega), Nat.div_eq_of_lt hj, Nat.mod_eq_of_lt hj]
      rfl
    · rw [List.getElem?_append_right (by omega), hc, ih]
      have e1 : j / k = (j - k) / k + 1 := by rw [Nat.div_eq_sub_div hk (by omega)]
      have e2 : j % k = (j - k) % k := by rw [Nat.mod_eq_sub_mod (by omega)]
      rw [e1, e2]
      rfl
theorem flatten_len {k : Nat} : ∀ (l : List (List Value)), (∀ c ∈ l, c.length = k) → l.flatten.length = l.length * k
  | [], _ => by simp
  | c :: l, h => by
    rw [List.flatten_cons, List.length_append, flatten_len l (fun c' hc' => h c' (.tail _ hc')), h c (.head _), List.length_cons, Nat.succ_mul, Nat.add_comm]

theorem elem_cell {w : World} {U : TypeId} {b off n c m : Nat} {css : List (List Value)} {k : Nat} (hk : 0 < k) (hl : Sl w U (.slice (some ⟨b, off, none⟩) m c) n css.flatten) (hc : ∀ cs ∈ css, cs.length = k) {i j : Nat} (hi : i < css.length) (hj : j < k) {v : Value} (h : css[i][j]? = some v) (hn : 0 < n) :
    w.cell? ⟨b, off + (i * k + j), none⟩ = some v := by
  obtain ⟨b', off', c', e, hrow⟩ := hl.at hn
  injection e with e _ _
  injection e with e
  injection e with e1 e2
  subst e1; subst e2
  refine hrow.cell ?_
  rw [flatten_get hk _ hc]
  have e1 : (i * k + j) / k = i := by rw [Nat.mul_comm, Nat.mul_add_div hk, Nat.div_eq_of_lt hj]; rfl
  have e2 : (i * k + j) % k = j := by rw [Nat.mul_comm, Nat.mul_add_mod, Nat.mod_eq_of_lt hj]
  rw [e1, e2, List.getElem?_eq_getElem hi]
  exact h

/-- the cells of element i of a slice whose elements have k cells each -/
theorem elem_enc {α : Type} {enc : α → List Value} {w : World} {U : TypeId} {b off m c k : Nat} {l : List α} (hk : 0 < k) (he : ∀ x, (enc x).length = k) (hl : Sl w U (.slice (some ⟨b, off, none⟩) m c) l.length (l.flatMap enc)) {i : Nat} (hi : i < l.length) (j : Nat) (hj : j < k) {v : Value} (h : (enc l[i])[j]? = some v) :
    w.cell? ⟨b, off + i * k + j, none⟩ = some v := by
  have h1 : l.flatMap enc = (l.map enc).flatten := by rw [List.flatMap_def]
  rw [h1] at hl
  have := elem_cell (css := l.map enc) hk (n := l.length) hl (fun cs hcs => by obtain ⟨x, _, rfl⟩ := List.mem_map.1 hcs; exact he x) (i := i) (j := j) (by simpa using hi) hj (v := v) (by simpa using h) (by omega)
  rw [Nat.add_assoc]
  exact this

section
variable {H : Type} {enc : TypeId × Value → H} {P : Program} {w : World} {base : Nat} {spare : Nat → Bool} {held : Bool}

/-- a slice's elements: their cells, and that each reads -/
theorem open_rows {t e : TypeId} {fuel : Nat} {v : Value} {x : DataW H × List MemPlace} (k : Nat) (ht : P.underlying t = some (.slice e)) (hk : P.cellsOf e = k) (h0 : 0 < k)
    (h : DataW.trod enc P w base spare held fuel t [v] = some x) :
    ∃ (css : List (List Value)) (U : TypeId) (f : Nat), css.length ≤ 9223372036854775807 ∧ Sl w U v css.length css.flatten ∧ ∀ cs ∈ css, cs.length = k ∧ ∃ y, DataW.trod enc P w base spare held f e cs = some y := by
  rcases Deep.open_slice ht h with ⟨h1, _⟩ | ⟨a, len, cap, m, n, D, Pl, h1, hb, hl, hm, hmm, _, hx⟩
  · injection h1 with h1
    subst h1
    exact ⟨[], 0, 0, by simp, Sl.nil w 0, by simp⟩
  · injection h1 with h1
    subst h1
    have hlm : len ≤ m := by rw [hmm]; split <;> omega
    obtain ⟨C, hC⟩ := Deep.choose_lt (α := List Value) (p := fun i cs' => w.cells? base (a.add (i * P.cellsOf e)) (P.cellsOf e) = some cs' ∧ DataW.trod enc P w base spare held n e cs' = some (D i, Pl i)) hx
    rw [hk] at hC
    have hlen : ∀ cs ∈ (List.range len).map C, cs.length = k ∧ ∃ y, DataW.trod enc P w base spare held n e cs = some y := by
      intro cs hcs
      obtain ⟨i, hi, rfl⟩ := List.mem_map.1 hcs
      obtain ⟨h1, h2⟩ := hC i (by have := List.mem_range.1 hi; omega)
      exact ⟨(World.cells?_some h1).2.1, _, h2⟩
    have hcl : ((List.range len).map C).length = len := by simp
    have hfl := flatten_len _ (fun c hc => (hlen c hc).1)
    rw [hcl] at hfl
    rcases Nat.eq_zero_or_pos len with rfl | hp
    · exact ⟨[], 0, 0, by simp, ⟨_, _, rfl, hl, by unfold maxLen at hm; omega, .inl ⟨rfl, rfl⟩⟩, by simp⟩
    · have hcell : ∀ j, j < len * k → w.cell? (a.add j) = ((List.range len).map C).flatten[j]? := by
        intro j hj
        have hq : j / k < len := Nat.div_lt_of_lt_mul (by rwa [Nat.mul_comm] at hj)
        have hr : j % k < k := Nat.mod_lt _ h0
        rw [flatten_get h0 _ (fun c hc => (hlen c hc).1)]
        obtain ⟨h1, _⟩ := hC (j / k) (by omega)
        have := (World.cells?_some h1).2.2 (j % k) hr
        rw [Deep.add_add, Nat.mul_comm, Nat.div_add_mod] at this
        rw [this]
        simp [hq]
      have hs0 := hcell 0 (Nat.mul_pos hp h0)
      rw [List.getElem?_eq_getElem (by rw [hfl]; exact Nat.mul_pos hp h0)] at hs0
      have hsp := (cell_at hs0).1
      obtain ⟨b, off, sp⟩ := a
      have hsp' : sp = none := by simpa [Addr.add] using hsp
      subst hsp'
      obtain ⟨U, hrow⟩ := row_of_cells (w := w) (b := b) (off := off) (xs := ((List.range len).map C).flatten) (fun e => by
        have : 0 < len * k := Nat.mul_pos hp h0
        rw [e] at hfl; simp at hfl; omega) (fun j hj => by
        rw [hfl] at hj
        rw [← hcell j hj, add_off])
      refine ⟨(List.range len).map C, U, n, by rw [hcl]; unfold maxLen at hm; omega, ?_, hlen⟩
      rw [hcl]
      exact ⟨_, _, rfl, hl, by unfold maxLen at hm; omega, .inr ⟨hp, b, off, rfl, hrow⟩⟩

theorem open_bytes {t e : TypeId} {fuel : Nat} {v : Value} {x : DataW H × List MemPlace} (ht : P.underlying t = some (.slice e)) (he : P.underlying e = some (.int .u8)) (hc : P.cellsOf e = 1)
    (h : DataW.trod enc P w base spare held fuel t [v] = some x) : ∃ (l : Bytes) (U : TypeId), Bs U w v l ∧ l.length ≤ 9223372036854775807 := by
  obtain ⟨css, U, f, hl, hs, hcs⟩ := open_rows 1 ht hc (by decide) h
  have hb : ∀ css : List (List Value), (∀ cs ∈ css, cs.length = 1 ∧ ∃ y, DataW.trod enc P w base spare held f e cs = some y) → ∃ l : Bytes, css.flatten = l.map bv ∧ l.length = css.length := by
    intro css
    induction css with
    | nil => intro _; exact ⟨[], rfl, rfl⟩
    | cons c css ih =>
      intro h
      obtain ⟨l, h1, h2⟩ := ih (fun cs hcs => h cs (.tail _ hcs))
      obtain ⟨_, y, hy⟩ := h c (.head _)
      obtain ⟨n, rfl, _, hw⟩ := DataW.trod_int he hy
      have hw' : 0 ≤ n ∧ n ≤ 255 := by simpa [Lit.wf, IntKind.min, IntKind.max, IntKind.bits, IntKind.signed] using hw
      refine ⟨UInt8.ofNat n.toNat :: l, ?_, by simp [h2]⟩
      rw [List.flatten_cons, h1, List.map_cons]
      simp only [List.cons_append, List.nil_append]
      congr 1
      unfold bv
      rw [UInt8.toNat_ofNat']
      congr 1
      omega
  obtain ⟨l, h1, h2⟩ := hb css hcs
  exact ⟨l, U, by unfold Bs; rw [← h1, h2]; exact hs, by omega⟩

theorem open_int1 {t : TypeId} {fuel : Nat} {v : Value} {x : DataW H × List MemPlace} (ht : P.underlying t = some (.int .i64)) (h : DataW.trod enc P w base spare held fuel t [v] = some x) : ∃ n, v = .int .i64 n ∧ I64 n := by
  obtain ⟨n, h1, _, hw⟩ := DataW.trod_int ht h
  injection h1 with h1
  exact ⟨n, h1, by simpa [Lit.wf, IntKind.min, IntKind.max, IntKind.bits, IntKind.signed, I64] using hw⟩

theorem open_int_list {t e : TypeId} {fuel : Nat} {v : Value} {x : DataW H × List MemPlace} (ht : P.underlying t = some (.slice e)) (he : P.underlying e = some (.int .i64)) (hc : P.cellsOf e = 1)
    (h : DataW.trod enc P w base spare held fuel t [v] = some x) : ∃ (l : List Int) (U : TypeId), Sl w U v l.length (l.map iv) ∧ l.length ≤ 9223372036854775807 ∧ ∀ n ∈ l, I64 n := by
  obtain ⟨css, U, f, hl, hs, hcs⟩ := open_rows 1 ht hc (by decide) h
  have hb : ∀ css : List (List Value), (∀ cs ∈ css, cs.length = 1 ∧ ∃ y, DataW.trod enc P w base spare held f e cs = some y) → ∃ l : List Int, css.flatten = l.map iv ∧ l.length = css.length ∧ ∀ n ∈ l, I64 n := by
    intro css
    induction css with
    | nil => intro _; exact ⟨[], rfl, rfl, by simp⟩
    | cons c css ih =>
      intro h
      obtain ⟨l, h1, h2, h3⟩ := ih (fun cs hcs => h cs (.tail _ hcs))
      obtain ⟨hl1, y, hy⟩ := h c (.head _)
      match c, hl1 with
      | [v], _ =>
      obtain ⟨n, rfl, hn⟩ := open_int1 he hy
      exact ⟨n :: l, by rw [List.flatten_cons, h1]; rfl, by simp [h2], by simpa using ⟨hn, h3⟩⟩
  obtain ⟨l, h1, h2, h3⟩ := hb css hcs
  exact ⟨l, U, by rw [← h1, h2]; exact hs, by omega, h3⟩

/-- the fields of a struct's cells -/
theorem open_fields {e : TypeId} {fs : Array Field} {f : Nat} {cs : List Value} {y : DataW H × List MemPlace} (he : P.underlying e = some (.struct fs)) (h : DataW.trod enc P w base spare held f e cs = some y) :
    ∃ n, ∀ (i : Nat) (fd : Field), fs[i]? = some fd → ∃ z, DataW.trod enc P w base spare held n fd.type ((cs.drop fd.offset).take (P.cellsOf fd.type)) = some z := by
  obtain ⟨xs, n, _, _, _, hl, hf⟩ := DataW.trod_struct he h
  refine ⟨n, fun i fd hi => ?_⟩
  have hlt : i < xs.length := by rw [hl]; exact (Array.getElem?_eq_some_iff.1 hi).1
  exact ⟨xs[i], by rw [hf i fd hi, List.getElem?_eq_getElem hlt]⟩
theorem open_field1 {fs : Array Field} {n : Nat} {cs : List Value} (hf : ∀ (i : Nat) (fd : Field), fs[i]? = some fd → ∃ z, DataW.trod enc P w base spare held n fd.type ((cs.drop fd.offset).take (P.cellsOf fd.type)) = some z)
    (i : Nat) {t o : Nat} (h : (fs[i]?).map (fun f => (f.type, f.offset)) = some (t, o)) (hc : P.cellsOf t = 1) {v : Value} (hv : cs[o]? = some v) : ∃ z, DataW.trod enc P w base spare held n t [v] = some z := by
  obtain ⟨fd, h1, h2⟩ := Option.map_eq_some_iff.1 h
  simp only [Prod.mk.injEq] at h2
  obtain ⟨z, hz⟩ := hf i fd h1
  rw [h2.1, h2.2, hc] at hz
  obtain ⟨ho, hv⟩ := List.getElem?_eq_some_iff.1 hv
  rw [List.drop_eq_getElem_cons ho, hv] at hz
  exact ⟨z, hz⟩
end

theorem okWide_slice {P : Program} {w : World} {r : Reach} {base : Nat} {t e : TypeId} {v : Value} (ht : P.underlying t = some (.slice e)) (h : Value.okWide P w r base t v) : v.cells.toList = [v] := by
  unfold Value.okWide at h
  rw [ht] at h
  simp only at h
  unfold Cell.okWide at h
  rw [ht] at h
  simp only at h
  unfold Cell.ok at h
  rw [ht] at h
  cases v <;> simp_all [Value.cells]
theorem okWide_int {P : Program} {w : World} {r : Reach} {base : Nat} {t : TypeId} {k : IntKind} {v : Value} (ht : P.underlying t = some (.int k)) (h : Value.okWide P w r base t v) : ∃ n, v = .int k n ∧ k.has n := by
  unfold Value.okWide at h
  rw [ht] at h
  simp only at h
  unfold Cell.okWide at h
  rw [ht] at h
  simp only at h
  unfold Cell.ok at h
  rw [ht] at h
  cases v <;> simp_all
theorem len3 {α : Type} {l : List α} (h : l.length = 3) : ∃ a b c, l = [a, b, c] := by
  match l, h with
  | [a, b, c], _ => exact ⟨a, b, c, rfl⟩
theorem len4 {α : Type} {l : List α} (h : l.length = 4) : ∃ a b c d, l = [a, b, c, d] := by
  match l, h with
  | [a, b, c, d], _ => exact ⟨a, b, c, d, rfl⟩
end Go.Proofs.YtbbfgbkbdhghbaaGreatDoor

set_option linter.unusedVariables false
set_option linter.unusedSimpArgs false
namespace Go.Proofs.YtbbfgbkbdhghbaaGreatDoor
open Go.RowKit
variable {w : World} {V : VW} {n : Nat} {was now : Tbl} {U : TypeId}

/-- a line: fund, object, node, amount -/
abbrev Ln : Type := Int × Int × Int × Int
def lnC (x : Ln) : List Value := [.int .i64 x.1, .int .i64 x.2.1, .int .i64 x.2.2.1, .int .i64 x.2.2.2]
def lnV (x : Ln) : Value := .agg #[.int .i64 x.1, .int .i64 x.2.1, .int .i64 x.2.2.1, .int .i64 x.2.2.2]
theorem lnC_len (x : Ln) : (lnC x).length = 4 := rfl
/-- lines that are read -/
def Lns (w : World) (U : TypeId) (v : Value) (l : List Ln) : Prop := Sl w U v l.length (l.flatMap lnC)
theorem Lns.then {w w' : World} {v : Value} {l : List Ln} (h : Lns w U v l) (e : Ext [] w w') : Lns w' U v l := Sl.then h e
theorem Lns.at {b off m c : Nat} {l : List Ln} (h : Lns w U (.slice (some ⟨b, off, none⟩) m c) l) {i : Nat} (hi : i < l.length) :
    w.cell? ⟨b, off + i * 4, none⟩ = some (.int .i64 l[i].1) ∧ w.cell? ⟨b, off + i * 4 + 1, none⟩ = some (.int .i64 l[i].2.1) ∧ w.cell? ⟨b, off + i * 4 + 2, none⟩ = some (.int .i64 l[i].2.2.1) ∧ w.cell? ⟨b, off + i * 4 + 3, none⟩ = some (.int .i64 l[i].2.2.2) :=
  ⟨elem_enc (by decide) lnC_len h hi 0 (by decide) rfl, elem_enc (by decide) lnC_len h hi 1 (by decide) rfl, elem_enc (by decide) lnC_len h hi 2 (by decide) rfl, elem_enc (by decide) lnC_len h hi 3 (by decide) rfl⟩

def rightL (x : Ln) : Bool := !(x.2.2.2 == 0) && decide (x.2.2.2 ≤ 9007199254740992) && decide (-9007199254740992 ≤ x.2.2.2) && x.2.2.1 == 0 && !(x.2.1 == 1900) && !(x.2.1 == 2900)

theorem lines_right (x : Ln) (w : World) : Calls Tryz.prog 35 #[lnV x] w fun e w' => e = .returned (.bool (rightL x)) ∧ Ext [] w w' := by
  obtain ⟨f, o, nd, a⟩ := x
  simp only [lnV]
  have x0 := (Ext.refl [] w).alloc (.cells #[.int .i64 f, .int .i64 o, .int .i64 nd, .int .i64 a] 37)
  have hcs : (a = 0 ∨ a ≠ 0 ∧ 9007199254740992 < a ∨ a ≠ 0 ∧ ¬ 9007199254740992 < a ∧ a < -9007199254740992 ∨ (a ≠ 0 ∧ ¬ 9007199254740992 < a ∧ ¬ a < -9007199254740992) ∧ nd ≠ 0 ∨ (a ≠ 0 ∧ ¬ 9007199254740992 < a ∧ ¬ a < -9007199254740992) ∧ nd = 0 ∧ o = 1900 ∨ (a ≠ 0 ∧ ¬ 9007199254740992 < a ∧ ¬ a < -9007199254740992) ∧ nd = 0 ∧ o = 2900) ∧ rightL (f, o, nd, a) = false ∨
      ((a ≠ 0 ∧ ¬ 9007199254740992 < a ∧ ¬ a < -9007199254740992) ∧ nd = 0 ∧ o ≠ 1900 ∧ o ≠ 2900) ∧ rightL (f, o, nd, a) = true := by
    simp only [rightL]
    by_cases h1 : a = 0
    · simp [h1]
    by_cases h2 : 9007199254740992 < a
    · left; simp [h1, h2]; omega
    by_cases h3 : a < -9007199254740992
    · left; simp [h1, h2, h3]; omega
    by_cases h4 : nd = 0
    · by_cases h5 : o = 1900
      · left; simp [h1, h2, h3, h4, h5]
      · by_cases h6 : o = 2900
        · left; simp [h1, h2, h3, h4, h6]
        · right; simp [h1, h2, h3, h4, h5, h6]; omega
    · left; simp [h1, h2, h3, h4]
  rcases hcs with ⟨h, he⟩ | ⟨⟨⟨h1, h2, h3⟩, h4, h5, h6⟩, he⟩
  · have HE := Lib.hid he
    clear he
    rcases h with h1 | ⟨h1, h2⟩ | ⟨h1, h2, h3⟩ | ⟨⟨h1, h2, h3⟩, h4⟩ | ⟨⟨h1, h2, h3⟩, h4, h5⟩ | ⟨⟨h1, h2, h3⟩, h4, h5⟩
    all_goals
      try subst h1
      try subst h4
      try subst h5
      go_enter Tryz.func35, Tryz.ntmps35
      go_wp2_with fail
      go_ret
      exact ⟨ret_bool HE.out.symm, x0⟩
  · have HE := Lib.hid he
    clear he
    subst h4
    go_enter Tryz.func35, Tryz.ntmps35
    go_wp2_with fail
    go_ret
    exact ⟨ret_bool HE.out.symm, x0⟩

def hasL (now : Tbl) (x : Ln) : Bool := (tget now (key 70 [x.1])).isSome && (fixedO x.2.1 || (tget now (key 79 [x.2.1])).isSome)
def sumA (l : List Ln) : Int := (l.map (·.2.2.2)).sum
theorem sumA_snoc (l : List Ln) (x : Ln) : sumA (l ++ [x]) = sumA l + x.2.2.2 := by simp [sumA]
def checkL (now : Tbl) (l : List Ln) : Int := if l.length < 2 ∨ 6 < l.length then 1 else if l.all rightL = false then 1 else if l.all (hasL now) = false then 7 else if sumA l = 0 then 0 else 10

theorem lines_Check (h : IsView w V n was now) {v : Value} {l : List Ln} (hl : Lns w U v l) :
    Calls Tryz.prog 11 #[.pointer (some ⟨V.s, 0, none⟩), v] w fun e w' => e = .returned (.int .i64 (checkL now l)) ∧ Ext [] w w' := by
  obtain ⟨p, c, rfl, g1, g2⟩ := Sl.shape hl
  by_cases hlen : l.length < 2 ∨ 6 < l.length
  · have HE := Lib.hid (show checkL now l = 1 by rw [checkL, if_pos hlen])
    rcases hlen with h1 | h1
    · have h1' : (l.length : Int) < 2 := by omega
      go_enter Tryz.func11, Tryz.ntmps11
      go_wp2_with fail
      go_ret
      exact ⟨ret_int HE.out.symm, Ext.refl _ _⟩
    · have h1' : ¬ (l.length : Int) < 2 := by omega
      have h2' : (6 : Int) < (l.length : Int) := by omega
      go_enter Tryz.func11, Tryz.ntmps11
      go_wp2_with fail
      go_ret
      exact ⟨ret_int HE.out.symm, Ext.refl _ _⟩
  · have h1' : ¬ (l.length : Int) < 2 := by omega
    have h2' : ¬ (6 : Int) < (l.length : Int) := by omega
    go_enter Tryz.func11, Tryz.ntmps11
    go_wp2_with fail
    have hsum : ∀ i, i ≤ 6 → i ≤ l.length → (l.take i).all rightL = true → -((i : Int) * 9007199254740992) ≤ sumA (l.take i) ∧ sumA (l.take i) ≤ (i : Int) * 9007199254740992 := by
      intro i
      induction i with
      | zero => intro _ _ _; simp [sumA]
      | succ i ih =>
        intro h6 hle hall
        have hlt : i < l.length := by omega
        rw [List.take_succ_eq_append_getElem hlt] at hall ⊢
        simp only [List.all_append, Bool.and_eq_true] at hall
        have ih := ih (by omega) (by omega) hall.1
        have hr : rightL l[i] = true := by simpa using hall.2
        simp only [rightL, Bool.and_eq_true, decide_eq_true_eq] at hr
        rw [sumA_snoc]
        omega
    go_loopw [5, 22] (fun t s wr => ∃ i : Nat, i ≤ l.length ∧ s = .int .i64 i ∧ (l.take i).all rightL = true ∧ t = .int .i64 (sumA (l.take i)) ∧ Ext [] w wr) (fun _ s _ => l.length - (intOf s).toNat)
    case atStart => exact ⟨0, Nat.zero_le _, rfl, rfl, rfl, Ext.refl _ _⟩
    case round =>
      obtain ⟨i, hi, rfl, hall, rfl, hx⟩ := hrel
      by_cases hlt : i < l.length
      · obtain ⟨b, off, c', hpp, _⟩ := Sl.at hl (by omega)
        injection hpp with hpp _ hc'
        subst hpp; subst hc'
        obtain ⟨f1, f2, f3, f4⟩ := (hl.then hx).at hlt
        have hT := List.take_succ_eq_append_getElem hlt
        have hR := fun W => lines_right l[i] W
        have hS := hsum i (by omega) hi hall
        have hS1 := hsum (i + 1) (by omega) (by omega)
        rw [hT] at hS1
        have e := sumA_snoc (l.take i) l[i]
        rw [e] at hS1
        have HT := Lib.hid hT
        have HS := Lib.hid e
        have HA := Lib.hid hall
        obtain ⟨hS1a, hS1b⟩ := hS
        simp only [lnV] at hR
        cases hq : rightL l[i] with
        | false =>
          rw [hq] at hR
          have HE := Lib.hid (show checkL now l = 1 by
            rw [checkL, if_neg hlen, if_pos]
            rw [List.all_eq_false]
            exact ⟨_, List.getElem_mem hlt, by simp [hq]⟩)
          clear hq hT e hS1 hall hsum
          go_wp2_with (go_at_call 35; refine (hR _).mono ?_; rintro e w2 ⟨rfl, x2⟩)
          go_ret
          exact ⟨ret_int HE.out.symm, (hx.alloc _).then x2⟩
        | true =>
          rw [hq] at hR
          have hS2 := hS1 (by rw [List.all_append, hall]; simp [hq])
          obtain ⟨hS2a, hS2b⟩ := hS2
          have HQ := Lib.hid hq
          clear hq hT e hS1 hall hsum
          have hal := heap_alloc_new wr (.cells #[.int .i64 l[i].1, .int .i64 l[i].2.1, .int .i64 l[i].2.2.1, .int .i64 l[i].2.2.2] 37)
          go_wp2_with (go_at_call 35; refine (hR _).mono ?_; rintro e w2 ⟨rfl, x2⟩; have e3 := cell_of (off := 3) (x2.at hal (by simp)) rfl)
          go_roundw
          case rel => exact ⟨i + 1, by omega, by go_num, by rw [HT.out, List.all_append, HA.out]; simp [HQ.out], by rw [HT.out, HS.out], (hx.alloc _).then x2⟩
          case measure => simp [intOf]; omega
      · have e : i = l.length := by omega
        subst e
        rw [List.take_length] at hall
        simp only [List.take_length]
        go_wp2_with fail
        have HAl := Lib.hid hall
        clear hall hsum
        have h0 := hx
        clear hx
        go_loopw [36] (fun s wr => ∃ i : Nat, i ≤ l.length ∧ s = .int .i64 i ∧ (l.take i).all (hasL now) = true ∧ Ext [] w wr) (fun s _ => l.length - (intOf s).toNat)
        case atStart => exact ⟨0, Nat.zero_le _, rfl, rfl, h0⟩
        case round =>
          obtain ⟨i, hi, rfl, hal, hx⟩ := hrel
          by_cases hlt : i < l.length
          · obtain ⟨b, off, c', hpp, _⟩ := Sl.at hl (by omega)
            injection hpp with hpp _ hc'
            subst hpp; subst hc'
            obtain ⟨f1, f2, f3, f4⟩ := (hl.then hx).at hlt
            have HT := Lib.hid (List.take_succ_eq_append_getElem hlt)
            have HA := Lib.hid hal
            clear hal
            have hy := hx.alloc (.cells #[.int .i64 l[i].1, .int .i64 l[i].2.1, .int .i64 l[i].2.2.1, .int .i64 l[i].2.2.2] 37)
            have hcell := heap_alloc_new wr (.cells #[.int .i64 l[i].1, .int .i64 l[i].2.1, .int .i64 l[i].2.2.1, .int .i64 l[i].2.2.2] 37)
            have hF := chart_Fund (h.then hy) l[i].1
            cases hq : (tget now (key 70 [l[i].1])).isSome with
            | false =>
              rw [hq] at hF
              have HE := Lib.hid (show checkL now l = 7 by
                rw [checkL, if_neg hlen, HAl.out, if_neg (by simp), if_pos]
                rw [List.all_eq_false]
                exact ⟨_, List.getElem_mem hlt, by simp [hasL, hq]⟩)
              clear hq
              go_wp2_with (go_at_call 25; refine hF.mono ?_; rintro e w2 ⟨rfl, x2⟩)
              go_ret
              exact ⟨ret_int HE.out.symm, hy.then x2⟩
            | true =>
              rw [hq] at hF
              have HQ := Lib.hid hq
              clear hq
              cases hq : (fixedO l[i].2.1 || (tget now (key 79 [l[i].2.1])).isSome) with
              | false =>
                have HE := Lib.hid (show checkL now l = 7 by
                  rw [checkL, if_neg hlen, HAl.out, if_neg (by simp), if_pos]
                  rw [List.all_eq_false]
                  exact ⟨_, List.getElem_mem hlt, by simp only [hasL, hq]; simp⟩)
                have HQ2 := Lib.hid hq
                clear hq
                go_wp2_with (first
                  | (go_at_call 25; refine hF.mono ?_; rintro e w2 ⟨rfl, x2⟩; have e3 := cell_of (off := 1) (x2.at hcell (by simp)) rfl)
                  | (go_at_call 36; refine (chart_Object (h.then (hy.then x2)) l[i].2.1).mono ?_; rintro e w3 ⟨rfl, x3⟩; rw [HQ2.out]))
                go_ret
                exact ⟨ret_int HE.out.symm, (hy.then x2).then x3⟩
              | true =>
                have HQ2 := Lib.hid hq
                clear hq
                go_wp2_with (first
                  | (go_at_call 25; refine hF.mono ?_; rintro e w2 ⟨rfl, x2⟩; have e3 := cell_of (off := 1) (x2.at hcell (by simp)) rfl)
                  | (go_at_call 36; refine (chart_Object (h.then (hy.then x2)) l[i].2.1).mono ?_; rintro e w3 ⟨rfl, x3⟩; rw [HQ2.out]))
                go_roundw
                case rel => exact ⟨i + 1, by omega, by go_num, by rw [HT.out, List.all_append, HA.out]; simp only [List.all_cons, List.all_nil, hasL, HQ.out, HQ2.out]; rfl, (hy.then x2).then x3⟩
                case measure => simp [intOf]; omega
          · have e : i = l.length := by omega
            subst e
            rw [List.take_length] at hal
            have HA := Lib.hid hal
            clear hal
            by_cases hz : sumA l = 0
            · have HE := Lib.hid (show checkL now l = 0 by rw [checkL, if_neg hlen, HAl.out, HA.out]; simp [hz])
              have hz' : (sumA l != 0) = false := by simp [hz]
              clear hz
              go_wp2_with fail
              go_ret
              exact ⟨ret_int HE.out.symm, hx⟩
            · have HE := Lib.hid (show checkL now l = 10 by rw [checkL, if_neg hlen, HAl.out, HA.out]; simp [hz])
              have hz' : (sumA l != 0) = true := by simp [hz]
              clear hz
              go_wp2_with fail
              go_ret
              exact ⟨ret_int HE.out.symm, hx⟩
end Go.Proofs.YtbbfgbkbdhghbaaGreatDoor
