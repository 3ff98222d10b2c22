/-
  view.Put.
-/
import Derived.Test.YtbbfgbkbdhghbaaGreatDoorView2
set_option linter.unusedVariables false
set_option linter.unusedSimpArgs false
namespace Go.Proofs.YtbbfgbkbdhghbaaGreatDoor
open Go.RowKit

theorem IsView.put {w : World} {V : VW} {n : Nat} {was now : Tbl} (h : IsView w V n was now) {r : Value} {k v : Bytes} (hr : Bs 5 w r v) (hf : Fit2 k v) :
    ∃ w', (Instr.mapUpdate 47 (.map (some V.c)) (.string (str k)) (.agg #[r, .bool false])).run Tryz.prog w = .ok () w' ∧ IsView w' V (n + 1) was (tput now k v) ∧ Ext V.M w w' := by
  obtain ⟨ch, me, chx, mex, hc, hm, ec, em, hn, hwas, hnow, hkl⟩ := h.maps
  obtain ⟨w', hu, hc', hx, hs⟩ := hc.put (P := Tryz.prog) (t := 47) Tryz.underlying47 Tryz.underlying9 k (.agg #[r, .bool false])
  have hx' : Ext V.M w w' := hx.mono (by simp [VW.M])
  have hcb : ∀ b ∈ [V.c], ∀ cs fr, w.heap[b]? ≠ some (.cells cs 5 fr) := by
    intro b hb cs fr
    simp at hb
    subst hb
    exact hc.ne_cells _ _ _
  have hsc : V.s ≠ V.c := fun e => hc.ne_cells _ _ _ (e ▸ h.cells)
  refine ⟨w', hu, ⟨(hx.block _ h.lt.1 (by simpa using hsc)).trans h.cells, ⟨aput ch k (.agg #[r, .bool false]), me, aput chx k (some v), mex, hc', hm.ext hx (by simpa using h.ne.symm), ?_, ?_, ?_, hwas, ?_, ?_⟩, h.swas, h.snow.tput k v, h.fwas, ?_, h.ne⟩, hx'⟩
  · exact (ec.imp fun _ _ hx' => hx'.ext hx hcb).put k (x := some v) ⟨r, rfl, hr.sl.ext hx hcb⟩
  · exact em.imp fun _ _ hx' => hx'.sl.ext hx hcb
  · have := aput_length chx k (some v); omega
  · intro k'
    rw [tget_tput h.snow, alook_aput]
    by_cases e : k = k'
    · simp [e]
    · simp only [e, if_false]; exact hnow k'
  · intro p hp
    rcases mem_aput hp with rfl | hp
    · exact hf.2.1
    · exact hkl p hp
  · intro p hp
    rcases mem_tput hp with rfl | hp
    · exact hf
    · exact h.fnow p hp

theorem view_Put_no {U1 U2 : TypeId} {w : World} {V : VW} {n : Nat} {was now : Tbl} (h : IsView w V n was now) (kv vv : Value) (k v : Bytes) (hk : Bs U1 w kv k) (hv : Bs U2 w vv v) (hf : ¬ Fit2 k v) :
    Calls Tryz.prog 27 #[.pointer (some ⟨V.s, 0, none⟩), kv, vv] w fun e w' => e = .returned (.int .i64 1) ∧ w = w' := by
  obtain ⟨p1, c1, rfl, _, hd1⟩ := hk.shape
  obtain ⟨p2, c2, rfl, _, hd2⟩ := hv.shape
  have hf' : ¬ (1 ≤ k.length) ∨ 1 ≤ k.length ∧ ¬ (k.length ≤ 32) ∨ 1 ≤ k.length ∧ k.length ≤ 32 ∧ ¬ v.length ≤ 120 := by unfold Fit2 at hf; omega
  rcases hf' with h1 | ⟨h1, h2⟩ | ⟨h1, h2, h3⟩
  all_goals
    go_enter Tryz.func27, Tryz.ntmps27
    go_wp2_with (go_at_call 49; refine (view_ready h).mono ?_; rintro e w' ⟨rfl, rfl⟩)
    go_ret
    exact ⟨rfl, rfl⟩

theorem view_Put {U1 U2 : TypeId} {w : World} {V : VW} {n : Nat} {was now : Tbl} (h : IsView w V n was now) (kv vv : Value) (k v : Bytes) (hk0 : StayV V U1 w kv k) (hv : Bs U2 w vv v) (hf : Fit2 k v) :
    Calls Tryz.prog 27 #[.pointer (some ⟨V.s, 0, none⟩), kv, vv] w fun e w' => e = .returned (.int .i64 0) ∧ IsView w' V (n + 1) was (tput now k v) ∧ Ext V.M w w' := by
  have hk := hk0.now
  obtain ⟨p1, c1, rfl, _, hd1⟩ := hk.shape
  obtain ⟨p2, c2, rfl, _, hd2⟩ := hv.shape
  obtain ⟨f1, f2, f3⟩ := hf
  have hc0 := h.cell.1
  have hstr : ∀ W, Bs U1 W (.slice p1 k.length c1) k → (convert 63 9 (.slice p1 k.length c1)).run Tryz.prog W = .ok (.string (str k)) W :=
    fun W hW => run_str (P := Tryz.prog) Tryz.underlying63 Tryz.underlying5 Tryz.underlying9 hW
  have xd : Ext [] w w.drew := (Ext.refl [] w).drew
  have hkd := hk.then xd
  have hvd := hv.then xd
  go_enter Tryz.func27, Tryz.ntmps27
  go_wp2_with (go_at_call 49; refine (view_ready h).mono ?_; rintro e w' ⟨rfl, rfl⟩)
  go_region_held3 (fun W => W.cell? ⟨V.s, 0, none⟩ = some (.map (some V.c)) ∧ Bs U1 W (.slice p1 k.length c1) k) (first | exact ⟨hc0, hkd⟩ | exact ⟨(h.then (xd.then x1)).cell.1, hkd.then x1⟩ | exact ⟨hx2.cell.1, hk0 _ (((xd.then x1).mono (M' := V.M) (by simp)).same hz2)⟩) (first | (go_at_call 50; refine (bytes_Clone _ v _ hvd (by omega)).mono ?_; rintro e w1 ⟨r, rfl, hr, x1⟩; obtain ⟨rp, rc, rfl, _, _⟩ := hr.bs.sl.shape; obtain ⟨w2, hu, hx2, hz2⟩ := (IsView.put (h.then (xd.then x1)) hr.bs ⟨f1, f2, f3⟩)))
  all_goals
    go_wp2_with fail
    go_ret
    exact ⟨rfl, hx2, ((xd.then x1).mono (M' := V.M) (by simp)).same hz2⟩
end Go.Proofs.YtbbfgbkbdhghbaaGreatDoor
