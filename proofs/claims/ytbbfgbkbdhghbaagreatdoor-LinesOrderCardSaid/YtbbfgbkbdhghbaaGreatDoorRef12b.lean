/-
  The document's table: Scan and Delete.
-/
import Derived.Test.YtbbfgbkbdhghbaaGreatDoorRef12
set_option linter.unusedVariables false
set_option linter.unusedSimpArgs false
namespace Go.Proofs.YtbbfgbkbdhghbaaGreatDoor
open Go.RowKit

set_option maxHeartbeats 1000000 in
theorem tab_Scan {U : TypeId} {w : World} {b : Nat} {T : Tbl} (h : IsTab w b T) (pv : Value) (p : Bytes) (hp : Bs U w pv p) (hT : T.length ≤ 1099511627776) :
    Calls Tryz.prog 92 #[.pointer (some ⟨b, 0, none⟩), pv] w fun e w' => ∃ r, e = .returned r ∧ OwnP w.heap.size w' r (tscan T p) ∧ Ext [] w w' := by
  obtain ⟨v, hs, hb, hrd⟩ := h
  have c0 : w.cell? ⟨b, 0, none⟩ = some v := by simp [World.cell?, hb]
  obtain ⟨vp, vc, rfl, hc1, hc2⟩ := hrd.1.shape
  obtain ⟨pp, pc, rfl, hpc1, hpc2⟩ := hp.shape
  clear hb
  go_enter Tryz.func92, Tryz.ntmps92
  go_wp2_with fail
  go_loopw [5, 6] (fun o s wr => ∃ i : Nat, i ≤ T.length ∧ s = .int .i64 i ∧ OwnP w.heap.size wr o (tscan (T.take i) p) ∧ Ext [] w wr) (fun _ s _ => T.length - (intOf s).toNat)
  case atStart => exact ⟨0, Nat.zero_le _, rfl, OwnP.nil _ _, Ext.refl _ _⟩
  case round =>
    obtain ⟨i, hi, rfl, hP, hx⟩ := hrel
    have e0 := hx.cell (by simp) c0
    have d0 := hx.drew.cell (by simp) c0
    by_cases hlt : i < T.length
    · obtain ⟨bb, off, c', hpp, _⟩ := hrd.1.at (by omega)
      injection hpp with hpp _ hc'
      subst hpp; subst hc'
      obtain ⟨k1, v1, _, g1, g2, hk1, hv1⟩ := (hrd.then hx).at hlt
      obtain ⟨kp, kc, rfl, hkc1, hkc2⟩ := hk1.shape
      obtain ⟨vp1, vc1, rfl, _, _⟩ := hv1.shape
      have HS := Lib.hid (show tscan (T.take (i + 1)) p = tscan (T.take i) p ++ (if p.isPrefixOf T[i].1 then [T[i]] else []) by
        rw [List.take_succ_eq_append_getElem hlt, tscan, List.filter_append, List.filter_cons]; rfl)
      have hPl : (tscan (T.take i) p).length ≤ 1099511627776 := Nat.le_trans (List.length_filter_le _ _) (by simp; omega)
      have hdr : Ext [] wr wr.drew := (Ext.refl [] wr).drew
      have g3 := hdr.cell (by simp) g1
      have g4 := hdr.cell (by simp) g2
      have hstr := run_str (P := Tryz.prog) Tryz.underlying63 Tryz.underlying5 Tryz.underlying9 (hp.then hx.drew)
      have hsz := hx.size
      by_cases hle : p.length ≤ T[i].1.length
      · have hb : (T[i].1.take p.length == p) = p.isPrefixOf T[i].1 := by
          rw [Bool.eq_iff_iff, List.isPrefixOf_iff_prefix, List.prefix_iff_eq_take, beq_iff_eq]
          exact ⟨fun h => h.symm, fun h => h.symm⟩
        have htk := (hk1.then hdr).take p.length hle
        have hstr2 := run_str (P := Tryz.prog) Tryz.underlying63 Tryz.underlying5 Tryz.underlying9 htk
        cases hq : (T[i].1.take p.length == p) with
        | false =>
          have HQ := Lib.hid (show p.isPrefixOf T[i].1 = false by rw [← hb, hq])
          clear hb htk
          iterate 120 (first | at_builtin | go_step | skip)
          go_region
          all_goals
            iterate 120 (first | at_builtin | go_step | skip)
            refine ⟨⟨i + 1, by omega, by go_num, ?_, hx.drew⟩, by simp [intOf]; omega⟩
            rw [HS.out, HQ.out]
            simpa using hP.then hdr
        | true =>
          have HQ := Lib.hid (show p.isPrefixOf T[i].1 = true by rw [← hb, hq])
          clear hb htk
          obtain ⟨hs', ho, hrel⟩ := hP.then hdr
          iterate 120 (first | at_builtin | go_step | skip)
          go_region
          all_goals
            iterate 120 (first | at_builtin | go_step | skip)
            rw [show ∀ o, (wr.alloc o).drew = wr.drew.alloc o from fun _ => rfl]
            with_reducible refine app1 (k := 2) Tryz.underlying51 row_pair (by decide) ho ?_ ?_ ?_ ?_ ?_ ?_ ?_ ?_
            rfl
            simp [Value.oneCell']
            omega
            omega
            exact hsz
            rfl
            rfl
            intro v1 w6 ho1 hx1 hat
            iterate 120 (first | at_builtin | go_step | skip)
            refine ⟨⟨i + 1, by omega, by go_num, ?_, ?_⟩, by simp [intOf]; omega⟩
            · rw [HS.out, HQ.out, if_pos rfl]
              exact OwnP.push (h := (_, _)) ho hrel ⟨hk1.then hdr, hv1.then hdr⟩ ho1 hx1
            · exact hx.drew.trans hx1 (fun b hb hlt' => by have := own_fresh ho b (by simpa using hb); omega)
      · have HQ := Lib.hid (show p.isPrefixOf T[i].1 = false by
          rw [Bool.eq_false_iff, ne_eq, List.isPrefixOf_iff_prefix]
          exact fun h => hle h.length_le)
        iterate 120 (first | at_builtin | go_step | skip)
        go_region
        all_goals
          iterate 120 (first | at_builtin | go_step | skip)
          refine ⟨⟨i + 1, by omega, by go_num, ?_, hx.drew⟩, by simp [intOf]; omega⟩
          rw [HS.out, HQ.out]
          simpa using hP.then hdr
    · have e : i = T.length := by omega
      subst e
      rw [List.take_length] at hP
      iterate 60 (first | at_builtin | go_step | skip)
      go_ret
      exact ⟨_, rfl, hP, hx⟩
end Go.Proofs.YtbbfgbkbdhghbaaGreatDoor
