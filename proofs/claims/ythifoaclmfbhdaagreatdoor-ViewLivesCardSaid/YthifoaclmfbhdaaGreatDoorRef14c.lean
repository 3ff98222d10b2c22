/-
  The document's view: Changes.
-/
import Derived.Test.YthifoaclmfbhdaaGreatDoorRef14b
import Derived.Test.YthifoaclmfbhdaaGreatDoorChanges
set_option linter.unusedVariables false
set_option linter.unusedSimpArgs false
namespace Go.Proofs.YthifoaclmfbhdaaGreatDoor
open Go.RowKit
variable {B : Nat} {U U1 U2 : TypeId}

set_option maxHeartbeats 4000000 in
theorem ref_Changes {w : World} {s n : Nat} {was now : Tbl} (h : IsRef B w s n was now) (hn : n ≤ 1099511627776) :
    Calls Tryz.prog 39 #[.pointer (some ⟨s, 0, none⟩)] w fun e w' => ∃ r1 r2, e = .returned (.tuple #[r1, r2]) ∧ OwnP w.heap.size w' r1 (chPuts was now) ∧ OwnD w.heap.size w' r2 (chDels was now) ∧ Ext [] w w' := by
  obtain ⟨a, b, c, told, hs, h2, h3, h4, h5, h6, h7, h8, h9, h10, h11, h12, h13, h14, h15, h16⟩ := h
  obtain ⟨lv, lh, hc, hrd⟩ := id h4
  have c0 : w.cell? ⟨s, 0, none⟩ = some (.pointer (some ⟨a, 0, none⟩)) := by simp [World.cell?, hs]
  have c1 : w.cell? ⟨s, 1, none⟩ = some (.pointer (some ⟨b, 0, none⟩)) := by simp [World.cell?, hs]
  have c2 : w.cell? ⟨s, 2, none⟩ = some (.pointer (some ⟨c, 0, none⟩)) := by simp [World.cell?, hs]
  have cc : w.cell? ⟨c, 0, none⟩ = some lv := by simp [World.cell?, hc]
  obtain ⟨lp, lc, rfl, _, _⟩ := hrd.1.shape
  have hl : (told.map (·.1)).Pairwise (· < ·) := List.pairwise_map.2 h10
  clear hs hc
  go_enter Tryz.func39, Tryz.ntmps39
  go_wp2_with fail
  go_loopw [4, 5, 6] (fun v1 v2 x wr => ∃ i : Nat, i ≤ told.length ∧ x = .int .i64 i ∧ OwnP w.heap.size wr v1 (((told.map (·.1)).take i).filterMap (chP was now)) ∧ OwnD w.heap.size wr v2 (((told.map (·.1)).take i).filter (chD was now)) ∧ Ext [] w wr) (fun _ _ x _ => told.length - (intOf x).toNat)
  case atStart => exact ⟨0, Nat.zero_le _, rfl, OwnP.nil _ _, OwnD.nil _ _, Ext.refl _ _⟩
  case round =>
    obtain ⟨i, hi, rfl, hP, hD, hx⟩ := hrel
    have d0 := hx.cell (by simp) c0
    have d1 := hx.cell (by simp) c1
    have d2 := hx.cell (by simp) c2
    have dc := hx.cell (by simp) cc
    by_cases hlt : i < told.length
    · obtain ⟨bb, off, c', hpp, _⟩ := hrd.1.at (by omega)
      injection hpp with hpp _ hc'
      subst hpp; subst hc'
      obtain ⟨k, hk⟩ : ∃ k, k = told[i].1 := ⟨_, rfl⟩
      obtain ⟨k1, v1, _, g1, g2, hk1, hv1⟩ := (hrd.then hx).at hlt
      rw [← hk] at hk1
      obtain ⟨kp, kc, rfl, hkc1, hkc2⟩ := hk1.shape
      have hli : (told.map (·.1)).take (i + 1) = (told.map (·.1)).take i ++ [k] := by rw [List.take_succ_eq_append_getElem (by simpa using hlt)]; simp [hk]
      have HF := Lib.hid (show ((told.map (·.1)).take (i + 1)).filterMap (chP was now) = ((told.map (·.1)).take i).filterMap (chP was now) ++ (chP was now k).toList by rw [hli, List.filterMap_append]; cases hcp : chP was now k <;> simp [hcp])
      have HG := Lib.hid (show ((told.map (·.1)).take (i + 1)).filter (chD was now) = ((told.map (·.1)).take i).filter (chD was now) ++ (if chD was now k then [k] else []) by rw [hli, List.filter_append]; simp [List.filter_cons])
      have hPl : (((told.map (·.1)).take i).filterMap (chP was now)).length ≤ 1099511627776 := Nat.le_trans (List.length_filterMap_le _ _) (by simp; omega)
      have hDl : (((told.map (·.1)).take i).filter (chD was now)).length ≤ 1099511627776 := Nat.le_trans (List.length_filter_le _ _) (by simp; omega)
      have hsz1 := hx.size
      have hG1 := tab_Get (h2.then hx) _ k hk1 (fun p hp => by have := h11 p hp; simp [Fit2] at this; omega)
      clear hk hli
      cases hwk : tget was k with
      | none =>
        cases hno : tget now k with
        | none =>
          have EP := Lib.hid (show chP was now k = none by unfold chP; rw [hno])
          have ED := Lib.hid (show chD was now k = false by unfold chD; rw [hno, hwk]; rfl)
          have HW := Lib.hid hwk
          have HN := Lib.hid hno
          rw [hwk] at hG1
          simp only [Option.isSome_none, Option.isSome_some, Option.getD_none, Option.getD_some] at hG1
          iterate 120 (first | at_builtin | go_step | skip)
          go_at_call 55
          refine hG1.mono ?_
          rintro e w1 ⟨q1, rfl, hr1, x1⟩
          have hG2 := tab_Get (h3.then (hx.then x1)) _ k (hk1.then x1) (fun p hp => by have := h12 p hp; simp [Fit2] at this; omega)
          rw [hno] at hG2
          simp only [Option.isSome_none, Option.isSome_some, Option.getD_none, Option.getD_some] at hG2
          have f1 := x1.cell (by simp) d1
          clear hwk hno hG1
          dsimp only
          iterate 120 (first | at_builtin | go_step | skip)
          go_at_call 55
          refine hG2.mono ?_
          rintro e w2 ⟨q2, rfl, hr2, x2⟩
          have hst1 := run_str (P := Tryz.prog) Tryz.underlying22 Tryz.underlying5 Tryz.underlying9 ((hr1.bs.then x2).then (Ext.refl [] w2).drew)
          have hst2 := run_str (P := Tryz.prog) Tryz.underlying22 Tryz.underlying5 Tryz.underlying9 (hr2.bs.then (Ext.refl [] w2).drew)
          have xx := x1.then x2
          clear hG2
          dsimp only
          go_wp2_with fail
          refine ⟨⟨i + 1, by omega, by go_num, ?_, ?_, hx.then xx⟩, by simp [intOf]; omega⟩
          · rw [HF.out, EP.out]
            simpa using hP.then xx
          · rw [HG.out, ED.out]
            simpa using hD.then xx
        | some x =>
          have EP := Lib.hid (show chP was now k = some (k, x) by unfold chP; rw [hno]; simp [hwk])
          have ED := Lib.hid (show chD was now k = false by unfold chD; rw [hno, hwk]; rfl)
          have HW := Lib.hid hwk
          have HN := Lib.hid hno
          rw [hwk] at hG1
          simp only [Option.isSome_none, Option.isSome_some, Option.getD_none, Option.getD_some] at hG1
          iterate 120 (first | at_builtin | go_step | skip)
          go_at_call 55
          refine hG1.mono ?_
          rintro e w1 ⟨q1, rfl, hr1, x1⟩
          have hG2 := tab_Get (h3.then (hx.then x1)) _ k (hk1.then x1) (fun p hp => by have := h12 p hp; simp [Fit2] at this; omega)
          rw [hno] at hG2
          simp only [Option.isSome_none, Option.isSome_some, Option.getD_none, Option.getD_some] at hG2
          have f1 := x1.cell (by simp) d1
          clear hwk hno hG1
          dsimp only
          iterate 120 (first | at_builtin | go_step | skip)
          go_at_call 55
          refine hG2.mono ?_
          rintro e w2 ⟨q2, rfl, hr2, x2⟩
          have hst1 := run_str (P := Tryz.prog) Tryz.underlying22 Tryz.underlying5 Tryz.underlying9 ((hr1.bs.then x2).then (Ext.refl [] w2).drew)
          have hst2 := run_str (P := Tryz.prog) Tryz.underlying22 Tryz.underlying5 Tryz.underlying9 (hr2.bs.then (Ext.refl [] w2).drew)
          have xx := x1.then x2
          clear hG2
          dsimp only
          obtain ⟨rp, rc, rfl, _, _⟩ := hr2.bs.sl.shape
          obtain ⟨hs', ho, hrel⟩ := hP.then xx
          have hk2 := (hk1.then x1).then x2
          have hsz2 := xx.size
          go_wp2_with ((with_reducible refine app1 (k := 2) Tryz.underlying33 row_pair (by decide) ho ?_ ?_ ?_ ?_ ?_ ?_ ?_ ?_); rfl; simp [Value.oneCell']; omega; omega; omega; rfl; rfl; intro v3 w3 ho1 hx1 hat)
          refine ⟨⟨i + 1, by omega, by go_num, ?_, ?_, ?_⟩, by simp [intOf]; omega⟩
          · rw [HF.out, EP.out]
            exact OwnP.push (h := (_, _)) ho hrel ⟨hk2, hr2.bs⟩ ho1 hx1
          · rw [HG.out, ED.out]
            simpa using (hD.then xx).other ho hx1
          · exact (hx.then xx).trans hx1 (fun b hb hlt' => by have := own_fresh ho b (by simpa using hb); omega)
      | some y =>
        cases hno : tget now k with
        | none =>
          have EP := Lib.hid (show chP was now k = none by unfold chP; rw [hno])
          have ED := Lib.hid (show chD was now k = true by unfold chD; rw [hno, hwk]; rfl)
          have HW := Lib.hid hwk
          have HN := Lib.hid hno
          rw [hwk] at hG1
          simp only [Option.isSome_none, Option.isSome_some, Option.getD_none, Option.getD_some] at hG1
          iterate 120 (first | at_builtin | go_step | skip)
          go_at_call 55
          refine hG1.mono ?_
          rintro e w1 ⟨q1, rfl, hr1, x1⟩
          have hG2 := tab_Get (h3.then (hx.then x1)) _ k (hk1.then x1) (fun p hp => by have := h12 p hp; simp [Fit2] at this; omega)
          rw [hno] at hG2
          simp only [Option.isSome_none, Option.isSome_some, Option.getD_none, Option.getD_some] at hG2
          have f1 := x1.cell (by simp) d1
          clear hwk hno hG1
          dsimp only
          iterate 120 (first | at_builtin | go_step | skip)
          go_at_call 55
          refine hG2.mono ?_
          rintro e w2 ⟨q2, rfl, hr2, x2⟩
          have hst1 := run_str (P := Tryz.prog) Tryz.underlying22 Tryz.underlying5 Tryz.underlying9 ((hr1.bs.then x2).then (Ext.refl [] w2).drew)
          have hst2 := run_str (P := Tryz.prog) Tryz.underlying22 Tryz.underlying5 Tryz.underlying9 (hr2.bs.then (Ext.refl [] w2).drew)
          have xx := x1.then x2
          clear hG2
          dsimp only
          obtain ⟨hs', ho, hrel⟩ := hD.then xx
          have hk2 := (hk1.then x1).then x2
          have hsz2 := xx.size
          go_wp2_with ((with_reducible refine app1 (k := 1) Tryz.underlying34 row_bytes (by decide) ho ?_ ?_ ?_ ?_ ?_ ?_ ?_ ?_); rfl; simp [Value.oneCell']; omega; omega; omega; rfl; rfl; intro v3 w3 ho1 hx1 hat)
          refine ⟨⟨i + 1, by omega, by go_num, ?_, ?_, ?_⟩, by simp [intOf]; omega⟩
          · rw [HF.out, EP.out]
            simpa using (hP.then xx).other ho hx1
          · rw [HG.out, ED.out]
            exact OwnD.push ho hrel hk2 ho1 hx1
          · exact (hx.then xx).trans hx1 (fun b hb hlt' => by have := own_fresh ho b (by simpa using hb); omega)
        | some x =>
          by_cases hyx : y = x
          · have EP := Lib.hid (show chP was now k = none by unfold chP; rw [hno]; simp [hwk, hyx])
            have ED := Lib.hid (show chD was now k = false by unfold chD; rw [hno, hwk]; rfl)
            have hbq : (y == x) = true := by simp [hyx]
            clear hyx
            have HW := Lib.hid hwk
            have HN := Lib.hid hno
            rw [hwk] at hG1
            simp only [Option.isSome_none, Option.isSome_some, Option.getD_none, Option.getD_some] at hG1
            iterate 120 (first | at_builtin | go_step | skip)
            go_at_call 55
            refine hG1.mono ?_
            rintro e w1 ⟨q1, rfl, hr1, x1⟩
            have hG2 := tab_Get (h3.then (hx.then x1)) _ k (hk1.then x1) (fun p hp => by have := h12 p hp; simp [Fit2] at this; omega)
            rw [hno] at hG2
            simp only [Option.isSome_none, Option.isSome_some, Option.getD_none, Option.getD_some] at hG2
            have f1 := x1.cell (by simp) d1
            clear hwk hno hG1
            dsimp only
            iterate 120 (first | at_builtin | go_step | skip)
            go_at_call 55
            refine hG2.mono ?_
            rintro e w2 ⟨q2, rfl, hr2, x2⟩
            have hst1 := run_str (P := Tryz.prog) Tryz.underlying22 Tryz.underlying5 Tryz.underlying9 (hr1.bs.then x2)
            have hst2 := run_str (P := Tryz.prog) Tryz.underlying22 Tryz.underlying5 Tryz.underlying9 hr2.bs
            have xx := x1.then x2
            clear hG2
            dsimp only
            go_wp2_with fail
            refine ⟨⟨i + 1, by omega, by go_num, ?_, ?_, hx.then xx⟩, by simp [intOf]; omega⟩
            · rw [HF.out, EP.out]
              simpa using hP.then xx
            · rw [HG.out, ED.out]
              simpa using hD.then xx
          · have EP := Lib.hid (show chP was now k = some (k, x) by unfold chP; rw [hno]; simp [hwk, hyx])
            have ED := Lib.hid (show chD was now k = false by unfold chD; rw [hno, hwk]; rfl)
            have hbq : (y == x) = false := by simp [hyx]
            clear hyx
            have HW := Lib.hid hwk
            have HN := Lib.hid hno
            rw [hwk] at hG1
            simp only [Option.isSome_none, Option.isSome_some, Option.getD_none, Option.getD_some] at hG1
            iterate 120 (first | at_builtin | go_step | skip)
            go_at_call 55
            refine hG1.mono ?_
            rintro e w1 ⟨q1, rfl, hr1, x1⟩
            have hG2 := tab_Get (h3.then (hx.then x1)) _ k (hk1.then x1) (fun p hp => by have := h12 p hp; simp [Fit2] at this; omega)
            rw [hno] at hG2
            simp only [Option.isSome_none, Option.isSome_some, Option.getD_none, Option.getD_some] at hG2
            have f1 := x1.cell (by simp) d1
            clear hwk hno hG1
            dsimp only
            iterate 120 (first | at_builtin | go_step | skip)
            go_at_call 55
            refine hG2.mono ?_
            rintro e w2 ⟨q2, rfl, hr2, x2⟩
            have hst1 := run_str (P := Tryz.prog) Tryz.underlying22 Tryz.underlying5 Tryz.underlying9 (hr1.bs.then x2)
            have hst2 := run_str (P := Tryz.prog) Tryz.underlying22 Tryz.underlying5 Tryz.underlying9 hr2.bs
            have xx := x1.then x2
            clear hG2
            dsimp only
            obtain ⟨rp, rc, rfl, _, _⟩ := hr2.bs.sl.shape
            obtain ⟨hs', ho, hrel⟩ := hP.then xx
            have hk2 := (hk1.then x1).then x2
            have hsz2 := xx.size
            go_wp2_with ((with_reducible refine app1 (k := 2) Tryz.underlying33 row_pair (by decide) ho ?_ ?_ ?_ ?_ ?_ ?_ ?_ ?_); rfl; simp [Value.oneCell']; omega; omega; omega; rfl; rfl; intro v3 w3 ho1 hx1 hat)
            refine ⟨⟨i + 1, by omega, by go_num, ?_, ?_, ?_⟩, by simp [intOf]; omega⟩
            · rw [HF.out, EP.out]
              exact OwnP.push (h := (_, _)) ho hrel ⟨hk2, hr2.bs⟩ ho1 hx1
            · rw [HG.out, ED.out]
              simpa using (hD.then xx).other ho hx1
            · exact (hx.then xx).trans hx1 (fun b hb hlt' => by have := own_fresh ho b (by simpa using hb); omega)
    · have e : i = told.length := by omega
      subst e
      go_wp2_with fail
      go_ret2
      rw [show told.length = (told.map (·.1)).length by simp, List.take_length] at hP hD
      rw [chP_all h9 hl h15] at hP
      rw [chD_all h8 hl h15] at hD
      exact ⟨_, _, rfl, hP, hD, hx⟩
end Go.Proofs.YthifoaclmfbhdaaGreatDoor
