/-
  view.Delete, Err, Abort and Commit in memory.
-/
import Derived.Test.YthifoaclmfbhdaaGreatDoorChanges2
set_option linter.unusedVariables false
set_option linter.unusedSimpArgs false
namespace Go.Proofs.YthifoaclmfbhdaaGreatDoor
open Go.RowKit

theorem IsView.del {w : World} {V : VW} {n : Nat} {was now : Tbl} (h : IsView w V n was now) {k : Bytes} (hk : k.length ≤ 32) :
    ∃ w', (Instr.mapUpdate 25 (.map (some V.c)) (.string (str k)) (.agg #[.slice none 0 0, .bool true])).run Tryz.prog w = .ok () w' ∧ IsView w' V (n + 1) was (tdel now k) ∧ Ext V.M w w' := by
  obtain ⟨ch, me, chx, mex, hc, hm, ec, em, hn, hwas, hnow, hkl⟩ := h.maps
  obtain ⟨w', hu, hc', hx, hs⟩ := hc.put (P := Tryz.prog) (t := 25) Tryz.underlying25 Tryz.underlying9 k (.agg #[.slice none 0 0, .bool true])
  have hx' : Ext V.M w w' := hx.mono (by simp [VW.M])
  have hcb := hc.one (T := 5)
  have hsc : V.s ≠ V.c := fun e => hc.ne_cells _ _ _ (e ▸ h.cells)
  refine ⟨w', hu, ⟨(hx.block _ h.lt.1 (by simpa using hsc)).trans h.cells, ⟨aput ch k (.agg #[.slice none 0 0, .bool true]), me, aput chx k none, mex, hc', hm.ext hx (by simpa using h.ne.symm), ?_, ?_, ?_, hwas, ?_, ?_⟩, h.swas, h.snow.tdel k, h.fwas, ?_, h.ne⟩, hx'⟩
  · exact (ec.imp fun _ _ hx' => hx'.ext hx hcb).put k (x := none) rfl
  · exact em.imp fun _ _ hx' => Sl.ext hx' hx hcb
  · have := aput_length chx k none; omega
  · intro k'
    rw [tget_tdel, alook_aput]
    by_cases e : k = k'
    · simp [e]
    · simp only [e, if_false]; exact hnow k'
  · intro p hp
    rcases mem_aput hp with rfl | hp
    · exact hk
    · exact hkl p hp
  · intro p hp
    exact h.fnow p (List.mem_filter.1 hp).1

theorem view_Delete_no {U : TypeId} {w : World} {V : VW} {n : Nat} {was now : Tbl} (h : IsView w V n was now) (kv : Value) (k : Bytes) (hk : Bs U w kv k) (hg : tget now k = none) :
    Calls Tryz.prog 9 #[.pointer (some ⟨V.s, 0, none⟩), kv] w fun e w' => e = .returned (.bool false) ∧ Ext [] w w' := by
  have hG := view_Get h kv k hk
  rw [hg] at hG
  simp only [Option.isSome_none] at hG
  clear hg
  go_enter Tryz.func9, Tryz.ntmps9
  go_wp2_with (go_at_call 5; refine hG.mono ?_; rintro e w1 ⟨r, rfl, hr, x1⟩)
  go_ret
  exact ⟨rfl, x1⟩

theorem view_Delete {U : TypeId} {w : World} {V : VW} {n : Nat} {was now : Tbl} (h : IsView w V n was now) (kv : Value) (k v : Bytes) (hk : Bs U w kv k) (hg : tget now k = some v) :
    Calls Tryz.prog 9 #[.pointer (some ⟨V.s, 0, none⟩), kv] w fun e w' => e = .returned (.bool true) ∧ IsView w' V (n + 1) was (tdel now k) ∧ Ext V.M w w' := by
  have hG := view_Get h kv k hk
  have hkl : k.length ≤ 32 := by have := h.fnow _ (tget_mem hg); simp [Fit2] at this; omega
  rw [hg] at hG
  simp only [Option.isSome_some] at hG
  clear hg
  go_enter Tryz.func9, Tryz.ntmps9
  go_wp2_with (go_at_call 5; refine hG.mono ?_; rintro e w1 ⟨r, rfl, hr, x1⟩)
  have hc0 := (h.then x1.drew).cell.1
  have hstr := run_str (P := Tryz.prog) (w := w1.drew) Tryz.underlying22 Tryz.underlying5 Tryz.underlying9 (hk.then x1.drew)
  obtain ⟨w2, hu, hv2, hx2⟩ := (h.then x1.drew).del hkl
  go_region
  all_goals
    go_wp2_with fail
    go_ret
    exact ⟨rfl, hv2, (x1.drew.mono (M' := V.M) (by simp)).same hx2⟩

theorem view_Err {w : World} {V : VW} {n : Nat} {was now : Tbl} (h : IsView w V n was now) :
    Calls Tryz.prog 12 #[.pointer (some ⟨V.s, 0, none⟩)] w fun e w' => e = .returned (.int .i64 0) ∧ w = w' := by
  obtain ⟨c0, c1, c2, c3⟩ := h.cell
  go_enter Tryz.func12, Tryz.ntmps12
  go_wp2_with (go_at_call 17; refine (view_ready h).mono ?_; rintro e w' ⟨rfl, rfl⟩)
  go_ret
  exact ⟨rfl, rfl⟩

theorem IsView.clear {w : World} {V : VW} {n : Nat} {was now : Tbl} (h : IsView w V n was now) : ∃ w', (Builtin.clear_ #[25] 0 #[.map (some V.c)]).run Tryz.prog w = .ok (.tuple #[]) w' ∧ IsView w' V n was was ∧ Ext [V.c] w w' := by
  obtain ⟨ch, me, chx, mex, hc, hm, ec, em, hn, hwas, hnow, hkl⟩ := h.maps
  obtain ⟨w', hu, hc', hx, hs⟩ := hc.clear (P := Tryz.prog) (t := 25) (ty := 0) Tryz.underlying25
  have hcb := hc.one (T := 5)
  have hsc : V.s ≠ V.c := fun e => hc.ne_cells _ _ _ (e ▸ h.cells)
  refine ⟨w', hu, ⟨(hx.block _ h.lt.1 (by simpa using hsc)).trans h.cells, ⟨[], me, [], mex, hc', hm.ext hx (by simpa using h.ne.symm), Ents.nil _, em.imp fun _ _ hx' => Sl.ext hx' hx hcb, by simp; omega, hwas, fun k => by rw [hwas]; rfl, by simp⟩, h.swas, h.swas, h.fwas, h.fwas, h.ne⟩, hx⟩

theorem view_Abort {w : World} {V : VW} {n : Nat} {was now : Tbl} (h : IsView w V n was now) :
    Calls Tryz.prog 7 #[.pointer (some ⟨V.s, 0, none⟩)] w fun e w' => e = .returned (.tuple #[]) ∧ IsView w' V n was was ∧ Ext V.M w w' := by
  obtain ⟨c0, c1, c2, c3⟩ := h.cell
  obtain ⟨w1, hu, h1, x1⟩ := h.clear
  obtain ⟨d0, d1, d2, d3⟩ := h1.cell
  have hf : w1.frozen? ⟨V.s, 3, none⟩ = false := frozen_of_row w1 V.s 3 _ _ h1.cells
  clear c1 c2 c3 d1 d2
  go_enter Tryz.func7, Tryz.ntmps7
  iterate 10 (first | at_builtin | go_step | skip)
  go_at_call 17
  refine (view_ready h).mono ?_
  rintro e w' ⟨rfl, rfl⟩
  dsimp only
  iterate 40 (first | at_builtin | go_step | skip)
  go_end0
  have xs : Ext [V.s] w1 (w1.setCell ⟨V.s, 3, none⟩ (.int .i64 0)) := (Ext.refl [V.s] w1).setCell (fun _ => by simp) _
  have h2 : IsView (w1.setCell ⟨V.s, 3, none⟩ (.int .i64 0)) V n was was := by
    have hlt := h1.lt
    have hb : ∀ b ∈ [V.s], ∀ cs fr, w1.heap[b]? ≠ some (.cells cs 5 fr) := fun b hb => h1.nobytes (by decide) b (by simp at hb; simp [VW.M, hb])
    obtain ⟨ch, me, chx, mex, hc, hm, ec, em, hn, hwas, hnow, hkl⟩ := h1.maps
    have e1 : V.s ≠ V.c := fun e => hc.ne_cells _ _ _ (e ▸ h1.cells)
    have e2 : V.s ≠ V.m := fun e => hm.ne_cells _ _ _ (e ▸ h1.cells)
    refine ⟨?_, ⟨ch, me, chx, mex, hc.ext xs (by simpa using e1.symm), hm.ext xs (by simpa using e2.symm), ec.imp fun _ _ hx => hx.ext xs hb, em.imp fun _ _ hx => Sl.ext hx xs hb, hn, hwas, hnow, hkl⟩, h1.swas, h1.snow, h1.fwas, h1.fnow, h1.ne⟩
    have hc := h1.cells
    simp [World.setCell, hlt.1]
    have hc' : w1.heap[V.s] = .cells #[.map (some V.c), .pointer none, .map (some V.m), .int .i64 0] 30 (0, 0) := by
      rw [Array.getElem?_eq_getElem hlt.1] at hc
      injection hc
    rw [Array.getElem_modify_self, hc']
    rfl
  exact ⟨rfl, h2, (x1.mono (M' := V.M) (by simp [VW.M])).same (xs.mono (M' := V.M) (by simp [VW.M]))⟩

theorem IsView.commit {w w1 : World} {V : VW} {n : Nat} {was now : Tbl} (h : IsView w V n was now) (hk : KeptV w1 V n now) (hx : Ext [V.m] w w1) :
    ∃ w2, (Builtin.clear_ #[25] 0 #[.map (some V.c)]).run Tryz.prog w1 = .ok (.tuple #[]) w2 ∧ IsView w2 V n now now ∧ Ext [V.c] w1 w2 := by
  obtain ⟨ch, me0, chx, mex0, hc, hm0, ec, em0, hn0, hwas, hnow, hkl⟩ := h.maps
  obtain ⟨me, mex, hm, em, hl, hall⟩ := hk
  have hc1 := hc.ext hx (by simpa using h.ne)
  obtain ⟨w2, hu, hc2, hx2, hs⟩ := hc1.clear (P := Tryz.prog) (t := 25) (ty := 0) Tryz.underlying25
  have e2 : V.s ≠ V.m := fun e => hm0.ne_cells _ _ _ (e ▸ h.cells)
  have e1 : V.s ≠ V.c := fun e => hc.ne_cells _ _ _ (e ▸ h.cells)
  have hs1 : V.s < w1.heap.size := Nat.lt_of_lt_of_le h.lt.1 hx.size
  have hcb := hc1.one (T := 5)
  exact ⟨w2, hu, ⟨((hx2.block _ hs1 (by simpa using e1)).trans (hx.block _ h.lt.1 (by simpa using e2))).trans h.cells, ⟨[], me, [], mex, hc2, hm.ext hx2 (by simpa using h.ne.symm), Ents.nil _, em.imp fun _ _ q => Sl.ext q hx2 hcb, by simpa using hl, hall, fun k => by rw [hall]; rfl, by simp⟩, h.snow, h.snow, h.fnow, h.fnow, h.ne⟩, hx2⟩

theorem view_Commit {w : World} {V : VW} {n : Nat} {was now : Tbl} (h : IsView w V n was now) (hn : n ≤ 1099511627776) :
    Calls Tryz.prog 11 #[.pointer (some ⟨V.s, 0, none⟩)] w fun e w' => e = .returned (.int .i64 0) ∧ IsView w' V n now now ∧ Ext V.M w w' := by
  go_enter Tryz.func11, Tryz.ntmps11
  go_wp2_with (first | (go_at_call 17; refine (view_ready h).mono ?_; rintro e w' ⟨rfl, rfl⟩) | (go_at_call 6; refine (view_Changes h hn).mono ?_; rintro e w1 ⟨r1, r2, rfl, _, _, x1⟩; obtain ⟨c0, c1, c2, c3⟩ := (h.then x1).cell))
  go_at_call 29
  refine (view_keep (h.then x1)).mono ?_
  rintro e w2 ⟨rfl, hk, x2⟩
  obtain ⟨w3, hu, h3, x3⟩ := (h.then x1).commit hk x2
  have d0 : w2.cell? ⟨V.s, 0, none⟩ = some (.map (some V.c)) := x2.cell (by obtain ⟨_, _, _, _, _, hm, _⟩ := (h.then x1).maps; have e2 : V.s ≠ V.m := fun e => hm.ne_cells _ _ _ (e ▸ (h.then x1).cells); simpa using e2) c0
  clear hk c0 c1 c2 c3
  dsimp only
  iterate 60 (first | at_builtin | go_step | skip)
  go_ret
  exact ⟨rfl, h3, ((x1.mono (M' := V.M) (by simp)).same (x2.mono (by simp [VW.M]))).same (x3.mono (by simp [VW.M]))⟩
end Go.Proofs.YthifoaclmfbhdaaGreatDoor
