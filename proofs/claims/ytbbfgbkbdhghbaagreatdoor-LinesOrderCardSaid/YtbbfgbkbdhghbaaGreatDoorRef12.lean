/-
  The document's table: Right, Get and Scan.
-/
import Derived.Test.YtbbfgbkbdhghbaaGreatDoorScan4
set_option linter.unusedVariables false
set_option linter.unusedSimpArgs false
namespace Go.Proofs.YtbbfgbkbdhghbaaGreatDoor
open Go.RowKit

/-- block b is a table of the document's that holds T -/
def IsTab (w : World) (b : Nat) (T : Tbl) : Prop := ∃ v hs, w.heap[b]? = some (.cells #[v] 54 (0, 0)) ∧ RdP w v hs T
theorem IsTab.ext {w w' : World} {b : Nat} {T : Tbl} {M : List Nat} (h : IsTab w b T) (e : Ext M w w') (hb : b ∉ M) (hm : ∀ x ∈ M, ∀ cs fr, w.heap[x]? ≠ some (.cells cs 5 fr)) (hp : ∀ x ∈ M, ∀ cs fr, w.heap[x]? ≠ some (.cells cs 95 fr)) : IsTab w' b T := by
  obtain ⟨v, hs, h1, h2, h3⟩ := h
  exact ⟨v, hs, (e.block _ (Array.getElem?_eq_some_iff.1 h1).1 hb).trans h1, h2.ext e hp, h3.imp fun _ _ q => q.ext e hm⟩
theorem IsTab.then {w w' : World} {b : Nat} {T : Tbl} (h : IsTab w b T) (e : Ext [] w w') : IsTab w' b T := h.ext e (by simp) (by simp) (by simp)

theorem ref_Right {U1 U2 : TypeId} (kv vv : Value) (k v : Bytes) (w : World) (hk : Bs U1 w kv k) (hv : Bs U2 w vv v) :
    Calls Tryz.prog 54 #[kv, vv] w fun e w' => e = .returned (.bool (decide (1 ≤ k.length ∧ k.length ≤ 32 ∧ v.length ≤ 120))) ∧ w = w' := by
  obtain ⟨p1, c1, rfl, _, hd1⟩ := hk.shape
  obtain ⟨p2, c2, rfl, _, hd2⟩ := hv.shape
  by_cases h1 : 1 ≤ k.length
  · by_cases h2 : k.length ≤ 32
    · have HE := Lib.hid (show decide (1 ≤ k.length ∧ k.length ≤ 32 ∧ v.length ≤ 120) = decide (v.length ≤ 120) by simp [h1, h2])
      go_enter Tryz.func54, Tryz.ntmps54
      go_wp2_with fail
      go_ret
      refine ⟨ret_bool ?_, rfl⟩
      rw [HE.out]
      simp
      omega
    · have HE := Lib.hid (show decide (1 ≤ k.length ∧ k.length ≤ 32 ∧ v.length ≤ 120) = false by simp; omega)
      go_enter Tryz.func54, Tryz.ntmps54
      go_wp2_with fail
      go_ret
      exact ⟨rfl, rfl⟩
  · have HE := Lib.hid (show decide (1 ≤ k.length ∧ k.length ≤ 32 ∧ v.length ≤ 120) = false by simp; omega)
    go_enter Tryz.func54, Tryz.ntmps54
    go_wp2_with fail
    go_ret
    exact ⟨rfl, rfl⟩

theorem tget_first {T : Tbl} {k : Bytes} : ∀ {i : Nat} (hi : i < T.length), (∀ j (hj : j < i), (T[j]'(Nat.lt_trans hj hi)).1 ≠ k) → T[i].1 = k → tget T k = some T[i].2 := by
  induction T with
  | nil => intro i hi; simp at hi
  | cons p T ih =>
    intro i hi hne he
    rw [tget_cons]
    cases i with
    | zero => simp at he; simp [he]
    | succ i =>
      have h0 := hne 0 (by omega)
      simp only [List.getElem_cons_zero] at h0
      rw [if_neg h0]
      exact ih (by simpa using hi) (fun j hj => by have := hne (j + 1) (by omega); simpa using this) (by simpa using he)

theorem tab_Get {U : TypeId} {w : World} {b : Nat} {T : Tbl} (h : IsTab w b T) (kv : Value) (k : Bytes) (hk : Bs U w kv k) (hv : ∀ p ∈ T, p.2.length ≤ 4294967296) :
    Calls Tryz.prog 67 #[.pointer (some ⟨b, 0, none⟩), kv] w fun e w' => ∃ r, e = .returned (.tuple #[r, .bool (tget T k).isSome]) ∧ NewB w w' r ((tget T k).getD []) ∧ Ext [] w w' := by
  obtain ⟨v, hs, hb, hrd⟩ := h
  have c0 : w.cell? ⟨b, 0, none⟩ = some v := by simp [World.cell?, hb]
  obtain ⟨vp, vc, rfl, hc1, hc2⟩ := hrd.1.shape
  clear hb
  go_enter Tryz.func67, Tryz.ntmps67
  go_wp2_with fail
  go_loopw [6] (fun s wr => ∃ i : Nat, i ≤ T.length ∧ s = .int .i64 i ∧ (∀ j (hj : j < i) (hl : j < T.length), T[j].1 ≠ k) ∧ Ext [] w wr) (fun s _ => T.length - (intOf s).toNat)
  case atStart => exact ⟨0, Nat.zero_le _, rfl, by simp, Ext.refl _ _⟩
  case round =>
    obtain ⟨i, hi, rfl, hall, hx⟩ := hrel
    have HA := Lib.hid hall
    clear hall
    have e0 := hx.cell (by simp) c0
    have d0 := hx.drew.cell (by simp) c0
    by_cases hlt : i < T.length
    · obtain ⟨bb, off, c', hpp, _⟩ := hrd.1.at (by omega)
      injection hpp with hpp _ hc'
      subst hpp; subst hc'
      have hrd2 := hrd.then hx.drew
      obtain ⟨k1, v1, _, g1, g2, hk1, hv1⟩ := hrd2.at hlt
      have hstr := run_str (P := Tryz.prog) Tryz.underlying63 Tryz.underlying5 Tryz.underlying9 (hk.then hx.drew)
      have hstr1 := run_str (P := Tryz.prog) Tryz.underlying63 Tryz.underlying5 Tryz.underlying9 hk1
      have hvl : T[i].2.length ≤ 4294967296 := hv _ (List.getElem_mem hlt)
      cases hq : (T[i].1 == k) with
      | false =>
        have HQ := Lib.hid hq
        iterate 60 (first | at_builtin | go_step | skip)
        go_region
        all_goals
          iterate 60 (first | at_builtin | go_step | skip)
          refine ⟨⟨i + 1, by omega, by go_num, fun j hj hl => ?_, hx.drew⟩, by simp [intOf]; omega⟩
          rcases Nat.lt_succ_iff_lt_or_eq.1 hj with hj | rfl
          · exact HA.out j hj hl
          · have := HQ.out; simpa using this
      | true =>
        have hg : tget T k = some T[i].2 := tget_first hlt (fun j hj => HA.out j hj _) (by simpa using hq)
        have HG := Lib.hid hg
        have hl1 : (T[i].2.map bv).length = T[i].2.length * 1 := by simp
        have hl2 := bv_one T[i].2
        have hsz := hx.size
        clear hg
        iterate 60 (first | at_builtin | go_step | skip)
        go_region
        all_goals
          iterate 120 (first | at_builtin | go_step | skip)
          with_reducible refine app0 (base := w.heap.size) Tryz.underlying63 row_u8 (by decide) hv1.sl hl1 hl2 ?_ ?_ ?_ ?_ ?_
          omega
          omega
          exact hsz
          rfl
          intro v2 w1 ho hg hat
          go_wp2_with fail
          go_ret2
          rw [HG.out]
          exact ⟨_, rfl, by simpa [NewB] using ho, hx.drew.then hg⟩
    · have e : i = T.length := by omega
      subst e
      have hg : tget T k = none := tget_none fun p hp => by
        obtain ⟨j, hj, rfl⟩ := List.mem_iff_getElem.1 hp
        exact HA.out j hj hj
      have HG := Lib.hid hg
      clear hg
      iterate 60 (first | at_builtin | go_step | skip)
      go_ret2
      rw [HG.out]
      exact ⟨_, rfl, own_nil _ _ _ _, hx⟩
end Go.Proofs.YtbbfgbkbdhghbaaGreatDoor
