/-
  The document's view: Delete, Commit, Abort.
-/
import Derived.Test.YthifoaclmfbhdaaGreatDoorRef14
set_option linter.unusedVariables false
set_option linter.unusedSimpArgs false
namespace Go.Proofs.YthifoaclmfbhdaaGreatDoor
open Go.RowKit
variable {B : Nat} {U U1 U2 : TypeId}

theorem ref_Delete {w : World} {s n : Nat} {was now : Tbl} (h : IsRef B w s n was now) (hn : n ≤ 1099511627776) (kv : Value) (k v : Bytes) (hk0 : Stay B U w kv k) (hg : tget now k = some v) :
    Calls Tryz.prog 33 #[.pointer (some ⟨s, 0, none⟩), kv] w fun e w' => e = .returned (.bool true) ∧ IsRef B w' s (n + 1) was (tdel now k) ∧ RExt B w w' := by
  obtain ⟨a, b, c, told, hs, h2, h3, h4, h5, h6, h7, h8, h9, h10, h11, h12, h13, h14, h15, h16⟩ := h
  have hk := hk0.now
  have hkf : k.length ≤ 32 := by have := h12 _ (tget_mem hg); simp [Fit2] at this; omega
  have hsl : s < w.heap.size := (Array.getElem?_eq_some_iff.1 hs).1
  have c1 : w.cell? ⟨s, 1, none⟩ = some (.pointer (some ⟨b, 0, none⟩)) := by simp [World.cell?, hs]
  have c2 : w.cell? ⟨s, 2, none⟩ = some (.pointer (some ⟨c, 0, none⟩)) := by simp [World.cell?, hs]
  have hne : ∀ {x T}, IsTab w x T → s ≠ x := fun {x T} ht e => by
    obtain ⟨cs, fr, hx⟩ := ht.ty
    subst e
    rw [hs] at hx; injection hx with hx; injection hx with _ hx _; revert hx; decide
  have hsc := hne h4
  have hsb := hne h3
  have hG := tab_Get h3 kv k hk (fun p hp => by have := h12 p hp; simp [Fit2] at this; omega)
  rw [hg] at hG
  simp only [Option.isSome_some] at hG
  have HG := Lib.hid hg
  have HS := Lib.hid hs
  clear hs hg
  go_enter Tryz.func33, Tryz.ntmps33
  iterate 40 (first | at_builtin | go_step | skip)
  go_at_call 55
  refine hG.mono ?_
  rintro e w0 ⟨r, rfl, _, x0⟩
  have c1' := x0.cell (by simp) c1
  have c2' := x0.cell (by simp) c2
  have h4' := h4.then x0
  have h3' := h3.then x0
  have hP := tab_Put h4' kv (.slice none 0 0) k [] (hk.then x0) (Sl.nil w0 5) (by omega) (by omega) (by simp)
  dsimp only
  iterate 60 (first | at_builtin | go_step | skip)
  go_at_call 54
  refine hP.mono ?_
  rintro e w1 ⟨rfl, q1, x1⟩
  have d1 := x1.cell (by simpa using hsc) c1'
  have h3'' := isTab_other h3' h4' x1 (Ne.symm h7)
  have hD := tab_Delete h3'' kv k (hk0 _ ((RExt.of x0).trans (RExt.tab h4' x1 h16.2.2.2))) (by omega)
  rw [HG.out] at hD
  simp only [Option.isSome_some] at hD
  dsimp only
  iterate 60 (first | at_builtin | go_step | skip)
  go_at_call 56
  refine hD.mono ?_
  rintro e w2 ⟨rfl, q2, x2⟩
  go_wp2_with fail
  go_ret
  refine ⟨rfl, ⟨a, b, c, tput told k [], ?_, isTab_other (isTab_other (h2.then x0) h4' x1 (Ne.symm h6)) h3'' x2 (Ne.symm h5), q2, isTab_other q1 h3'' x2 h7, h5, h6, h7, h8, h9.tdel k, h10.tput k [], h11, ?_, ?_, ?_, ?_, h16⟩, ((RExt.of x0).trans (RExt.tab h4' x1 h16.2.2.2)).trans (RExt.tab h3'' x2 h16.2.2.1)⟩
  · exact ((x2.block s (by have := x1.size; have := x0.size; omega) (by simpa using hsb)).trans (x1.block s (by have := x0.size; omega) (by simpa using hsc))).trans ((x0.block s hsl (by simp)).trans HS.out)
  · intro p hp
    exact h12 p (List.mem_filter.1 hp).1
  · intro p hp
    rcases mem_tput hp with rfl | hp
    · exact hkf
    · exact h13 p hp
  · have : (tdel now k).length ≤ now.length := List.length_filter_le _ _
    have := tput_length told k []
    omega
  · intro k' hk'
    rw [key_tput h10] at hk'
    rw [tget_tdel, if_neg (fun e => hk' (.inl e.symm))]
    exact h15 k' (fun hh => hk' (.inr hh))

theorem ref_Delete_no {w : World} {s n : Nat} {was now : Tbl} (h : IsRef B w s n was now) (kv : Value) (k : Bytes) (hk : Bs U w kv k) (hg : tget now k = none) :
    Calls Tryz.prog 33 #[.pointer (some ⟨s, 0, none⟩), kv] w fun e w' => e = .returned (.bool false) ∧ Ext [] w w' := by
  obtain ⟨a, b, c, told, hs, h2, h3, h4, h5, h6, h7, h8, h9, h10, h11, h12, h13, h14, h15, h16⟩ := h
  have c1 : w.cell? ⟨s, 1, none⟩ = some (.pointer (some ⟨b, 0, none⟩)) := by simp [World.cell?, hs]
  have hG := tab_Get h3 kv k hk (fun p hp => by have := h12 p hp; simp [Fit2] at this; omega)
  rw [hg] at hG
  simp only [Option.isSome_none] at hG
  clear hs hg
  go_enter Tryz.func33, Tryz.ntmps33
  go_wp2_with (go_at_call 55; refine hG.mono ?_; rintro e w0 ⟨r, rfl, _, x0⟩)
  go_ret
  exact ⟨rfl, x0⟩

/-- a view of the document's whose tables are laid anew -/
theorem IsRef.laid {w : World} {s n : Nat} {x y z : Nat} {T : Tbl} (hs : w.heap[s]? = some (.cells #[.pointer (some ⟨x, 0, none⟩), .pointer (some ⟨y, 0, none⟩), .pointer (some ⟨z, 0, none⟩)] 68 (0, 0)))
    {w2 : World} (hx : Ext [s] w w2) (hsz : w2.heap.size = w.heap.size) {lv : Value} {lh : List (Value × Value)} (hrd : RdP w lv lh T) {keep : Nat} (hk : IsTab w keep T) (hBs : B ≤ s) (hBk : B ≤ keep)
    (hS : Sorted T) (hF : ∀ p ∈ T, Fit2 p.1 p.2) (hn : T.length ≤ n)
    (h2s : w2.heap[s]? = some (.cells #[.pointer (some ⟨keep, 0, none⟩), .pointer (some ⟨w.heap.size, 0, none⟩), .pointer (some ⟨w.heap.size + 1, 0, none⟩)] 68 (0, 0)) ∨
      w2.heap[s]? = some (.cells #[.pointer (some ⟨w.heap.size, 0, none⟩), .pointer (some ⟨keep, 0, none⟩), .pointer (some ⟨w.heap.size + 1, 0, none⟩)] 68 (0, 0))) :
    IsRef B ((w2.alloc (.cells #[lv] 66)).alloc (.cells #[.slice none 0 0] 66)) s n T T ∧ RExt B w ((w2.alloc (.cells #[lv] 66)).alloc (.cells #[.slice none 0 0] 66)) := by
  have hne : ∀ U, 68 ≠ U → ∀ q ∈ [s], ∀ cs fr, w.heap[q]? ≠ some (.cells cs U fr) := by
    intro U hU q hq cs fr hh
    simp at hq
    subst hq
    rw [hs] at hh; injection hh with hh; injection hh with _ hh _; exact hU hh
  have hks : keep ≠ s := fun e => by
    obtain ⟨cs, fr, hh⟩ := hk.ty
    exact hne 66 (by decide) s (by simp) _ _ (e ▸ hh)
  have y1 := (Ext.refl [] w2).alloc (.cells #[lv] 66)
  have y2 := (Ext.refl [] (w2.alloc (.cells #[lv] 66))).alloc (.cells #[.slice none 0 0] 66)
  have hk2 : IsTab w2 keep T := hk.ext hx (by simpa using hks) (hne _ (by decide)) (hne _ (by decide))
  have hr2 : RdP w2 lv lh T := ⟨hrd.1.ext hx (hne _ (by decide)), hrd.2.imp fun _ _ q => q.ext hx (hne _ (by decide))⟩
  have hkl := hk.lt
  have hsl2 : s < w2.heap.size := by rw [hsz]; exact (Array.getElem?_eq_some_iff.1 hs).1
  have t1 := (newTab hr2 (m := w.heap.size) hsz.symm).then y2
  have t2 := newTab (nilRd (w2.alloc (.cells #[lv] 66))) (m := w.heap.size + 1) (by simp [hsz])
  have tk := (hk2.then y1).then y2
  refine ⟨?_, ⟨[s], fun q hq => by simp at hq; subst hq; exact ⟨hBs, _, _, .inr hs⟩, (hx.then y1).then y2⟩⟩
  have hB : B ≤ w.heap.size := by omega
  rcases h2s with h2s | h2s
  · exact ⟨keep, w.heap.size, w.heap.size + 1, [], ((y2.block s (by have := y1.size; omega) (by simp)).trans (y1.block s hsl2 (by simp))).trans h2s, tk, t1, t2, by omega, by omega, by omega, hS, hS, Sorted.nil, hF, hF, by simp, by simpa using hn, fun _ _ => rfl, by omega, by omega, by omega, by omega⟩
  · exact ⟨w.heap.size, keep, w.heap.size + 1, [], ((y2.block s (by have := y1.size; omega) (by simp)).trans (y1.block s hsl2 (by simp))).trans h2s, t1, tk, t2, by omega, by omega, by omega, hS, hS, Sorted.nil, hF, hF, by simp, by simpa using hn, fun _ _ => rfl, by omega, by omega, by omega, by omega⟩

theorem ref_Abort {w : World} {s n : Nat} {was now : Tbl} (h : IsRef B w s n was now) :
    Calls Tryz.prog 38 #[.pointer (some ⟨s, 0, none⟩)] w fun e w' => e = .returned (.tuple #[]) ∧ IsRef B w' s n was was ∧ RExt B w w' := by
  obtain ⟨a, b, c, told, hs, h2, h3, h4, h5, h6, h7, h8, h9, h10, h11, h12, h13, h14, h15, h16⟩ := h
  have hsl : s < w.heap.size := (Array.getElem?_eq_some_iff.1 hs).1
  obtain ⟨lv, lh, ha, hrd⟩ := id h2
  have c0 : w.cell? ⟨s, 0, none⟩ = some (.pointer (some ⟨a, 0, none⟩)) := by simp [World.cell?, hs]
  have ca : w.cell? ⟨a, 0, none⟩ = some lv := by simp [World.cell?, ha]
  have c1 : w.cell? ⟨s, 1, none⟩ = some (.pointer (some ⟨b, 0, none⟩)) := by simp [World.cell?, hs]
  have c2 : w.cell? ⟨s, 2, none⟩ = some (.pointer (some ⟨c, 0, none⟩)) := by simp [World.cell?, hs]
  obtain ⟨lp, lc, rfl, _, _⟩ := hrd.1.shape
  have z1 : w.frozen? ⟨s, 1, none⟩ = false := frozen_of_row w s 1 _ _ hs
  have z2 : w.frozen? ⟨s, 2, none⟩ = false := frozen_of_row w s 2 _ _ hs
  have hx : Ext [s] w ((w.setCell ⟨s, 1, none⟩ (.pointer (some ⟨w.heap.size, 0, none⟩))).setCell ⟨s, 2, none⟩ (.pointer (some ⟨w.heap.size + 1, 0, none⟩))) := ((Ext.refl [s] w).setCell (fun _ => by simp) _).setCell (fun _ => by simp) _
  have hfin := IsRef.laid (n := n) hs hx (by simp [World.setCell]) hrd h2 h16.1 h16.2.1 h8 h11 (by omega) (.inl (by rw [setCell_at (setCell_at hs _)]; rfl))
  have HF := Lib.hid hfin
  clear hs h2 h3 h4 ha hfin hx hrd
  go_enter Tryz.func38, Tryz.ntmps38
  iterate 130 (first | at_builtin | go_step | skip)
  go_end0
  exact ⟨rfl, HF.out⟩

theorem ref_Commit {w : World} {s n : Nat} {was now : Tbl} (h : IsRef B w s n was now) :
    Calls Tryz.prog 37 #[.pointer (some ⟨s, 0, none⟩)] w fun e w' => e = .returned (.tuple #[]) ∧ IsRef B w' s n now now ∧ RExt B w w' := by
  obtain ⟨a, b, c, told, hs, h2, h3, h4, h5, h6, h7, h8, h9, h10, h11, h12, h13, h14, h15, h16⟩ := h
  have hsl : s < w.heap.size := (Array.getElem?_eq_some_iff.1 hs).1
  obtain ⟨lv, lh, hb, hrd⟩ := id h3
  have c0 : w.cell? ⟨s, 0, none⟩ = some (.pointer (some ⟨a, 0, none⟩)) := by simp [World.cell?, hs]
  have cb : w.cell? ⟨b, 0, none⟩ = some lv := by simp [World.cell?, hb]
  have c1 : w.cell? ⟨s, 1, none⟩ = some (.pointer (some ⟨b, 0, none⟩)) := by simp [World.cell?, hs]
  have c2 : w.cell? ⟨s, 2, none⟩ = some (.pointer (some ⟨c, 0, none⟩)) := by simp [World.cell?, hs]
  obtain ⟨lp, lc, rfl, _, _⟩ := hrd.1.shape
  have z1 : w.frozen? ⟨s, 0, none⟩ = false := frozen_of_row w s 0 _ _ hs
  have z2 : w.frozen? ⟨s, 2, none⟩ = false := frozen_of_row w s 2 _ _ hs
  have hx : Ext [s] w ((w.setCell ⟨s, 0, none⟩ (.pointer (some ⟨w.heap.size, 0, none⟩))).setCell ⟨s, 2, none⟩ (.pointer (some ⟨w.heap.size + 1, 0, none⟩))) := ((Ext.refl [s] w).setCell (fun _ => by simp) _).setCell (fun _ => by simp) _
  have hfin := IsRef.laid (n := n) hs hx (by simp [World.setCell]) hrd h3 h16.1 h16.2.2.1 h9 h12 (by omega) (.inr (by rw [setCell_at (setCell_at hs _)]; rfl))
  have HF := Lib.hid hfin
  clear hs h2 h3 h4 hb hfin hx hrd
  go_enter Tryz.func37, Tryz.ntmps37
  iterate 130 (first | at_builtin | go_step | skip)
  go_end0
  exact ⟨rfl, HF.out⟩
end Go.Proofs.YthifoaclmfbhdaaGreatDoor
