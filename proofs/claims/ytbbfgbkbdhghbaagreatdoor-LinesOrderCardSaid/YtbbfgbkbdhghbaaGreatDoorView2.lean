/-
  view.New, ready, was and Get.
-/
import Derived.Test.YtbbfgbkbdhghbaaGreatDoorView
set_option linter.unusedVariables false
set_option linter.unusedSimpArgs false
namespace Go.Proofs.YtbbfgbkbdhghbaaGreatDoor
open Go.RowKit

@[go_sem] theorem neq_changes (w : World) (r : Option Nat) : (binOp .neq 47 (.map r) (.map none)).run Tryz.prog w = .ok (.bool (!r.isNone)) w :=
  run_neq_map_nil w 47 9 82 r Tryz.underlying47

theorem view_New (w : World) : Calls Tryz.prog 7 #[.pointer none] w fun e w' => ∃ V : VW, e = .returned (.pointer (some ⟨V.s, 0, none⟩)) ∧ IsView w' V 0 [] [] ∧ Ext [] w w' ∧ (∀ b ∈ V.M, w.heap.size ≤ b) := by
  have hmm := @run_makeMap Tryz.prog
  go_enter Tryz.func7, Tryz.ntmps7
  go_wp2_with fail
  go_ret
  refine ⟨⟨w.heap.size + 2, w.heap.size, w.heap.size + 1⟩, rfl, ?_, (((Ext.refl [] w).alloc _).alloc _).alloc _, by simp [VW.M]⟩
  have m1 : MapIs strEnc (w.alloc (.map #[] 0)) w.heap.size [] := MapIs.made w
  have m2 : MapIs strEnc ((w.alloc (.map #[] 0)).alloc (.map #[] 0)) (w.heap.size + 1) [] := by
    have := MapIs.made (E := strEnc) (w.alloc (.map #[] 0))
    simpa using this
  have x1 := (Ext.refl [] (w.alloc (.map #[] 0))).alloc (.map #[] 0)
  have x2 := (Ext.refl [] ((w.alloc (.map #[] 0)).alloc (.map #[] 0))).alloc (.cells #[.map (some w.heap.size), .pointer none, .map (some (w.heap.size + 1)), .int .i64 0] 50)
  refine ⟨?_, ⟨[], [], [], [], (m1.ext x1 (by simp)).ext x2 (by simp), m2.ext x2 (by simp), Ents.nil _, Ents.nil _, Nat.le_refl _, fun k => rfl, fun k => rfl, by simp⟩, Sorted.nil, Sorted.nil, by simp, by simp, by simp⟩
  have := heap_alloc_new ((w.alloc (.map #[] 0)).alloc (.map #[] 0)) (.cells #[.map (some w.heap.size), .pointer none, .map (some (w.heap.size + 1)), .int .i64 0] 50)
  simpa using this

theorem view_ready {w : World} {V : VW} {n : Nat} {was now : Tbl} (h : IsView w V n was now) : Calls Tryz.prog 49 #[.pointer (some ⟨V.s, 0, none⟩)] w fun e w' => e = .returned (.bool true) ∧ w = w' := by
  obtain ⟨c0, _, _, _⟩ := h.cell
  clear h
  go_enter Tryz.func49, Tryz.ntmps49
  go_wp2_with fail
  go_ret
  exact ⟨rfl, rfl⟩

theorem zero_bytes (w : World) : (zeroValue 63).run Tryz.prog w = .ok (.slice none 0 0) w := by kernel_rfl
theorem zero_shape (w : World) : (zeroValue 82).run Tryz.prog w = .ok (.agg #[.slice none 0 0, .bool false]) w := by kernel_rfl

theorem view_was {U : TypeId} {w : World} {V : VW} {n : Nat} {was now : Tbl} (h : IsView w V n was now) (kv : Value) (k : Bytes) (hk : Bs U w kv k) :
    Calls Tryz.prog 63 #[.pointer (some ⟨V.s, 0, none⟩), kv] w fun e w' => ∃ r, e = .returned (.tuple #[r, .bool (tget was k).isSome]) ∧ Bs 5 w r ((tget was k).getD []) ∧ (tget was k = none → r = .slice none 0 0) ∧ Ext [] w w' := by
  obtain ⟨c0, c1, c2, c3⟩ := h.cell
  obtain ⟨ch, me, chx, mex, hc, hm, ec, em, _, hwas, _⟩ := h.maps
  have hlook := (show MapIs strEnc w.drew V.m me from hm).look (P := Tryz.prog) (t := 48) Tryz.underlying48 Tryz.underlying9 (zero_bytes _) k
  have hstr := run_str (P := Tryz.prog) (w := w.drew) Tryz.underlying63 Tryz.underlying5 Tryz.underlying9 (show Bs U w.drew kv k from hk)
  change (Instr.lookup _ _ (.string (str k)) true).run _ _ = _ at hlook
  clear h hc hm ec
  go_enter Tryz.func63, Tryz.ntmps63
  go_wp2_with fail
  go_region
  go_wp2_with fail
  go_ret2
  have x1 : Ext [] w w.drew := (Ext.refl [] w).drew
  rcases em.look k with ⟨e1, e2⟩ | ⟨v, x, e1, e2, hb⟩
  · refine ⟨.slice none 0 0, ?_, ?_, fun _ => rfl, x1⟩
    · rw [hwas, e1, e2]; rfl
    · rw [hwas, e2]; exact Sl.nil _ _
  · refine ⟨v, ?_, ?_, fun h => ?_, x1⟩
    · rw [hwas, e1, e2]; rfl
    · rw [hwas, e2]; exact hb
    · rw [hwas, e2] at h; simp at h

theorem view_Get {U : TypeId} {w : World} {V : VW} {n : Nat} {was now : Tbl} (h : IsView w V n was now) (kv : Value) (k : Bytes) (hk : Bs U w kv k) :
    Calls Tryz.prog 47 #[.pointer (some ⟨V.s, 0, none⟩), kv] w fun e w' => ∃ r, e = .returned (.tuple #[r, .bool (tget now k).isSome]) ∧ NewB w w' r ((tget now k).getD []) ∧ Ext [] w w' := by
  obtain ⟨c0, c1, c2, c3⟩ := h.cell
  have h' := h
  obtain ⟨ch, me, chx, mex, hc, hm, ec, em, _, hwas, hnow, _⟩ := h.maps
  have hlook := (show MapIs strEnc w.drew V.c ch from hc).look (P := Tryz.prog) (t := 47) Tryz.underlying47 Tryz.underlying9 (zero_shape _) k
  have hstr := run_str (P := Tryz.prog) (w := w.drew) Tryz.underlying63 Tryz.underlying5 Tryz.underlying9 (show Bs U w.drew kv k from hk)
  change (Instr.lookup _ _ (.string (str k)) true).run _ _ = _ at hlook
  have xz := ((Ext.refl [] w).alloc (.cells #[.slice none 0 0, .bool false] 82)).drew
  have hlook2 := (hc.ext xz (by simp)).look (P := Tryz.prog) (t := 47) Tryz.underlying47 Tryz.underlying9 (zero_shape _) k
  have hstr2 := run_str (P := Tryz.prog) Tryz.underlying63 Tryz.underlying5 Tryz.underlying9 (hk.then xz)
  change (Instr.lookup _ _ (.string (str k)) true).run _ _ = _ at hlook2
  have c0z := ((h'.then xz).cell).1
  change (w.alloc _).cell? _ = _ at c0z
  have HC := Lib.hid hc
  have HN := Lib.hid hnow
  have HW := Lib.hid hwas
  clear hc hm em hwas hnow
  rcases ec.look k with ⟨e1, e2⟩ | ⟨v, x, e1, e2, hb⟩
  · rw [e1] at hlook hlook2
    simp only [Option.getD_none, Option.isSome_none] at hlook hlook2
    clear ec e1
    have E2 := Lib.hid e2
    clear e2
    go_enter Tryz.func47, Tryz.ntmps47
    go_wp2_with (go_at_call 49; refine (view_ready h').mono ?_; rintro e w' ⟨rfl, rfl⟩)
    go_region
    all_goals
      go_wp2_with fail
      refine (view_was (h'.then xz) kv k (hk.then xz)).mono ?_
      rintro e w1 ⟨r, rfl, hr, hr0, x1⟩
      have hsm : ((tget was k).getD []).length ≤ 4294967296 := by
        cases hg : tget was k with
        | none => simp
        | some v => have := h'.fwas _ (tget_mem hg); simp [Fit2] at this ⊢; omega
      go_wp2_with fail
      refine (bytes_Clone _ _ _ (hr.then x1) hsm).mono ?_
      rintro e w2 ⟨r2, rfl, hn, x2⟩
      go_wp2_with fail
      go_ret2
      have e : tget now k = tget was k := by rw [HN.out, E2.out, HW.out]
      rw [e]
      exact ⟨r2, rfl, hn.later (xz.then x1).size, (xz.then x1).then x2⟩
  · cases x with
    | none =>
      simp only [ShapeV] at hb
      subst hb
      rw [e1] at hlook hlook2
      simp only [Option.getD_some, Option.isSome_some] at hlook hlook2
      clear ec e1
      have E2 := Lib.hid e2
      clear e2
      go_enter Tryz.func47, Tryz.ntmps47
      go_wp2_with (go_at_call 49; refine (view_ready h').mono ?_; rintro e w' ⟨rfl, rfl⟩)
      go_region
      all_goals go_wp2_with fail
      all_goals go_ret2
      all_goals have e : tget now k = none := by rw [HN.out, E2.out]
      all_goals rw [e]
      all_goals exact ⟨_, rfl, own_nil _ _ _ _, (Ext.refl [] w).drew.alloc _⟩
    | some x =>
      obtain ⟨v, rfl, hb⟩ := hb
      obtain ⟨vp, vc, rfl, _, _⟩ := hb.shape
      rw [e1] at hlook hlook2
      simp only [Option.getD_some, Option.isSome_some] at hlook hlook2
      clear ec e1
      have e : tget now k = some x := by rw [HN.out, e2]
      have HE := Lib.hid e
      have hsm : x.length ≤ 4294967296 := by
        have := h'.fnow _ (tget_mem e); simp [Fit2] at this; omega
      clear e2 e
      go_enter Tryz.func47, Tryz.ntmps47
      go_wp2_with (go_at_call 49; refine (view_ready h').mono ?_; rintro e w' ⟨rfl, rfl⟩)
      go_region
      all_goals
        have xq : Ext [] w ((w.alloc (.cells #[.slice vp x.length vc, .bool false] 82)).drew) := ((Ext.refl [] w).alloc _).drew
        go_wp2_with (go_at_call 50; refine (bytes_Clone _ _ _ (hb.then xq) hsm).mono ?_; rintro e w2 ⟨r2, rfl, hn, x2⟩)
        go_ret2
        rw [HE.out]
        exact ⟨r2, rfl, hn.later xq.size, xq.then x2⟩
end Go.Proofs.YtbbfgbkbdhghbaaGreatDoor
