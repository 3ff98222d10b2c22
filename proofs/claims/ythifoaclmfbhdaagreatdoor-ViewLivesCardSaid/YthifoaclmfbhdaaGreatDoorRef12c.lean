/-
  The document's table: Delete.
-/
import Derived.Test.YthifoaclmfbhdaaGreatDoorRef12b
set_option linter.unusedVariables false
set_option linter.unusedSimpArgs false
namespace Go.Proofs.YthifoaclmfbhdaaGreatDoor
open Go.RowKit

theorem tdel_lt (T : Tbl) (k : Bytes) : decide ((tdel T k).length < T.length) = (tget T k).isSome := by
  rw [Bool.eq_iff_iff, decide_eq_true_iff]
  constructor
  · intro h
    cases hg : tget T k with
    | some v => rfl
    | none =>
      have : tdel T k = T := List.filter_eq_self.2 fun p hp => by simpa using (tget_none_iff.1 hg) p hp
      rw [this] at h; omega
  · intro h
    obtain ⟨v, hv⟩ := Option.isSome_iff_exists.1 h
    exact List.length_filter_lt_length_iff_exists.2 ⟨_, tget_mem hv, by simp⟩

/-- what is stored into a table's one field -/
theorem IsTab.set {w : World} {b : Nat} {v r : Value} (hb : w.heap[b]? = some (.cells #[v] 66 (0, 0))) {hs : List (Value × Value)} {T : Tbl} (hr : RdP w r hs T) :
    IsTab (w.setCell ⟨b, 0, none⟩ r) b T ∧ Ext [b] w (w.setCell ⟨b, 0, none⟩ r) := by
  have x : Ext [b] w (w.setCell ⟨b, 0, none⟩ r) := (Ext.refl [b] w).setCell (fun _ => by simp) r
  have hne : ∀ U, 66 ≠ U → ∀ q ∈ [b], ∀ cs fr, w.heap[q]? ≠ some (.cells cs U fr) := by
    intro U hU q hq cs fr hh
    simp at hq
    subst hq
    rw [hb] at hh
    injection hh with hh
    injection hh with _ hh _
    exact hU hh
  refine ⟨⟨r, hs, ?_, hr.1.ext x (hne _ (by decide)), hr.2.imp fun _ _ q => q.ext x (hne _ (by decide))⟩, x⟩
  rw [setCell_at hb]
  rfl

set_option maxHeartbeats 1000000 in
theorem tab_Delete {U : TypeId} {w : World} {b : Nat} {T : Tbl} (h : IsTab w b T) (kv : Value) (k : Bytes) (hk : Bs U w kv k) (hT : T.length ≤ 1099511627776) :
    Calls Tryz.prog 56 #[.pointer (some ⟨b, 0, none⟩), kv] w fun e w' => e = .returned (.bool (tget T k).isSome) ∧ IsTab w' b (tdel T k) ∧ Ext [b] w w' := by
  obtain ⟨v, hs, hb, hrd⟩ := h
  have hbl : b < w.heap.size := (Array.getElem?_eq_some_iff.1 hb).1
  have c0 : w.cell? ⟨b, 0, none⟩ = some v := by simp [World.cell?, hb]
  obtain ⟨vp, vc, rfl, hc1, hc2⟩ := hrd.1.shape
  have HB := Lib.hid hb
  clear hb
  go_enter Tryz.func56, Tryz.ntmps56
  go_wp2_with fail
  go_loopw [5, 6] (fun o s wr => ∃ i : Nat, i ≤ T.length ∧ s = .int .i64 i ∧ OwnP w.heap.size wr o (tdel (T.take i) k) ∧ Ext [] w wr) (fun _ s _ => T.length - (intOf s).toNat)
  case atStart => exact ⟨0, Nat.zero_le _, rfl, OwnP.nil _ _, Ext.refl _ _⟩
  case round =>
    obtain ⟨i, hi, rfl, hP, hx⟩ := hrel
    have e0 := hx.cell (by simp) c0
    have d0 := hx.drew.cell (by simp) c0
    have hdr : Ext [] wr wr.drew := (Ext.refl [] wr).drew
    by_cases hlt : i < T.length
    · obtain ⟨bb, off, c', hpp, _⟩ := hrd.1.at (by omega)
      injection hpp with hpp _ hc'
      subst hpp; subst hc'
      obtain ⟨k1, v1, _, g1, g2, hk1, hv1⟩ := (hrd.then hx.drew).at hlt
      obtain ⟨kp, kc, rfl, hkc1, hkc2⟩ := hk1.shape
      obtain ⟨vp1, vc1, rfl, _, _⟩ := hv1.shape
      have HS := Lib.hid (show tdel (T.take (i + 1)) k = tdel (T.take i) k ++ (if T[i].1 == k then [] else [T[i]]) by
        rw [List.take_succ_eq_append_getElem hlt, tdel, List.filter_append, List.filter_cons]
        by_cases e : T[i].1 = k <;> simp [e, tdel])
      have hPl : (tdel (T.take i) k).length ≤ 1099511627776 := Nat.le_trans (List.length_filter_le _ _) (by simp; omega)
      have hstr := run_str (P := Tryz.prog) Tryz.underlying22 Tryz.underlying5 Tryz.underlying9 (hk.then hx.drew)
      have hstr1 := run_str (P := Tryz.prog) Tryz.underlying22 Tryz.underlying5 Tryz.underlying9 hk1
      have hsz := hx.size
      cases hq : (T[i].1 == k) with
      | true =>
        have HQ := Lib.hid hq
        iterate 120 (first | at_builtin | go_step | skip)
        go_region
        all_goals
          iterate 120 (first | at_builtin | go_step | skip)
          refine ⟨⟨i + 1, by omega, by go_num, ?_, hx.drew⟩, by simp [intOf]; omega⟩
          rw [HS.out, HQ.out]
          simpa using hP.then hdr
      | false =>
        have HQ := Lib.hid hq
        obtain ⟨hs', ho, hrel⟩ := hP.then hdr
        iterate 120 (first | at_builtin | go_step | skip)
        go_region
        all_goals
          iterate 120 (first | at_builtin | go_step | skip)
          rw [show ∀ o, (wr.alloc o).drew = wr.drew.alloc o from fun _ => rfl]
          with_reducible refine app1 (k := 2) Tryz.underlying33 row_pair (by decide) ho ?_ ?_ ?_ ?_ ?_ ?_ ?_ ?_
          rfl
          simp [Value.oneCell']
          omega
          omega
          exact hsz
          rfl
          rfl
          intro v1 w6 ho1 hx1 hat
          iterate 120 (first | at_builtin | go_step | skip)
          refine ⟨⟨i + 1, by omega, by go_num, ?_, ?_⟩, by simp [intOf]; omega⟩
          · rw [HS.out, HQ.out]
            exact OwnP.push (h := (_, _)) ho hrel ⟨hk1, hv1⟩ ho1 hx1
          · exact hx.drew.trans hx1 (fun b hb hlt' => by have := own_fresh ho b (by simpa using hb); omega)
    · have e : i = T.length := by omega
      subst e
      rw [List.take_length] at hP
      obtain ⟨hs', ho, hrd'⟩ := hP.rd
      obtain ⟨op, oc, rfl, _, _⟩ := hrd'.1.shape
      have hb2 : wr.heap[b]? = some (.cells #[.slice vp T.length vc] 66 (0, 0)) := (hx.block b hbl (by simp)).trans HB.out
      have hfz : wr.frozen? ⟨b, 0, none⟩ = false := frozen_of_row wr b 0 _ _ hb2
      obtain ⟨q1, q2⟩ := IsTab.set hb2 hrd'
      have HT := Lib.hid (tdel_lt T k)
      have HH := Lib.hid hb2
      clear hb2
      iterate 120 (first | at_builtin | go_step | skip)
      go_ret
      refine ⟨?_, q1, (hx.mono (by simp)).same q2⟩
      rw [← HT.out]
      simp
end Go.Proofs.YthifoaclmfbhdaaGreatDoor
