/-
  slices.Clone, Reverse, Equal, IsSortedFunc, ContainsFunc over lines.
-/
import Derived.Test.YtbbfgbkbdhghbaaGreatDoorLinesF
import Derived.Test.YtbbfgbkbdhghbaaGreatDoorScan3
import Derived.Test.YtbbfgbkbdhghbaaGreatDoorEqL
set_option linter.unusedVariables false
set_option linter.unusedSimpArgs false
namespace Go.Proofs.YtbbfgbkbdhghbaaGreatDoor
open Go.RowKit
variable {w : World} {U U1 U2 : TypeId}

theorem lnC_one (l : List Ln) : ∀ u ∈ l.flatMap lnC, u.oneCell' = true := by
  intro u hu
  obtain ⟨x, _, hx⟩ := List.mem_flatMap.1 hu
  simp [lnC] at hx
  rcases hx with rfl | rfl | rfl | rfl <;> rfl

theorem lines_Clone {v : Value} {l : List Ln} (hl : Lns w U v l) (hn : l.length ≤ 1048576) :
    Calls Tryz.prog 18 #[v] w fun e w' => ∃ r, e = .returned r ∧ OwnL w.heap.size w' r l ∧ Ext [] w w' := by
  obtain ⟨p, c, rfl, g1, g2⟩ := Sl.shape hl
  have hnil := fun W => Lib.run_eql_slice_nil (P := Tryz.prog) W 23 37 p l.length c 0 0 Tryz.underlying23
  cases p with
  | none =>
    have : l = [] := by
      obtain ⟨p, c, e, _, _, ⟨h0, _⟩ | ⟨hn, b, off, e1, _⟩⟩ := hl
      · exact List.eq_nil_of_length_eq_zero h0
      · injection e with e; rw [← e] at e1; simp at e1
    subst this
    simp only [List.length_nil] at hnil ⊢
    clear hl g1 g2
    go_enter Tryz.func18, Tryz.ntmps18
    go_wp2_with fail
    go_ret
    exact ⟨_, rfl, own_nil _ _ _ _, Ext.refl _ _⟩
  | some p =>
    have h0 := own_lit w.heap.size 37 4 #[] 0 rfl w (Nat.le_refl _) (by decide)
    have x0 := (Ext.refl [] w).alloc (.cells #[] 37)
    have hv' : Sl _ U _ l.length (l.flatMap lnC) := hl.then x0
    have hl1 : (l.flatMap lnC).length = l.length * 4 := by
      have := flatten_len (k := 4) (l.map lnC) (fun c hc => by obtain ⟨x, _, rfl⟩ := List.mem_map.1 hc; rfl)
      rw [List.flatMap_def, this, List.length_map]
    have hl2 : ∀ u ∈ l.flatMap lnC, u.oneCell' = true := lnC_one l
    go_enter Tryz.func18, Tryz.ntmps18
    iterate 40 (first | at_builtin | go_step | skip)
    with_reducible refine app Tryz.underlying23 row_line (by decide) h0 hv' hl1 hl2 (by omega) (by omega) ?_ ?_ ?_ ?_
    simp
    rfl
    rfl
    intro v' w1 ho hg hat
    go_wp2_with fail
    go_ret
    exact ⟨_, rfl, by simpa [OwnL] using ho, x0.grown hg (by simp [Value.ownBlock])⟩

theorem eq_at {α : Type} [BEq α] [LawfulBEq α] {l m : List α} (hl : l.length = m.length) (h : ∀ (j : Nat) (h1 : j < l.length) (h2 : j < m.length), l[j] = m[j]) : (l == m) = true := by
  rw [beq_iff_eq]
  exact List.ext_getElem hl h
theorem ne_at {α : Type} [BEq α] [LawfulBEq α] {l m : List α} {j : Nat} (h1 : j < l.length) (h2 : j < m.length) (h : (l[j] == m[j]) = false) : (l == m) = false := by
  rw [beq_eq_false_iff_ne] at h ⊢
  intro e
  subst e
  exact h rfl
theorem lines_EqualS {u v : Value} {l m : List Ln} (hu : Lns w U1 u l) (hv : Lns w U2 v m) :
    Calls Tryz.prog 13 #[u, v] w fun e w' => e = .returned (.bool (l == m)) ∧ Ext [] w w' := by
  obtain ⟨p1, c1, rfl, g11, g12⟩ := Sl.shape hu
  obtain ⟨p2, c2, rfl, g21, g22⟩ := Sl.shape hv
  by_cases hl : l.length = m.length
  · have HL := Lib.hid hl
    obtain ⟨n, hn⟩ : ∃ n, n = l.length := ⟨_, rfl⟩
    have hm : m.length = n := by omega
    have HN := Lib.hid hn
    have HM := Lib.hid hm
    rw [← hn] at g11 ⊢
    rw [hm] at g21 ⊢
    clear hl hn hm
    go_enter Tryz.func13, Tryz.ntmps13
    go_wp2_with fail
    go_loopw [13] (fun x wr => ∃ i : Nat, i ≤ n ∧ x = .int .i64 i ∧ (∀ (j : Nat) (h1 : j < l.length) (h2 : j < m.length), j < i → l[j] = m[j]) ∧ Ext [] w wr) (fun x _ => n - (intOf x).toNat)
    case atStart => exact ⟨0, Nat.zero_le _, rfl, fun j _ _ h => by omega, Ext.refl _ _⟩
    case round =>
      obtain ⟨i, hi, rfl, hall, hx⟩ := hrel
      have HA := Lib.hid hall
      clear hall
      by_cases hlt : i < n
      · have hlt1 : i < l.length := by rw [← HN.out]; exact hlt
        have hlt2 : i < m.length := by rw [HM.out]; exact hlt
        obtain ⟨b1, o1, c1', hp1, _⟩ := Sl.at hu (by omega)
        obtain ⟨b2, o2, c2', hp2, _⟩ := Sl.at hv (by omega)
        injection hp1 with hp1 _ hc1
        injection hp2 with hp2 _ hc2
        subst hp1; subst hp2; subst hc1; subst hc2
        obtain ⟨f1, f2, f3, f4⟩ := (hu.then (hx.then (Ext.refl [] wr).drew)).at hlt1
        obtain ⟨g1, g2, g3, g4⟩ := (hv.then (hx.then (Ext.refl [] wr).drew)).at hlt2
        obtain ⟨x, hxx⟩ : ∃ x, x = l[i] := ⟨_, rfl⟩
        obtain ⟨y, hyy⟩ : ∃ y, y = m[i] := ⟨_, rfl⟩
        rw [← hxx] at f1 f2 f3 f4
        rw [← hyy] at g1 g2 g3 g4
        have HX := Lib.hid hxx
        have HY := Lib.hid hyy
        obtain ⟨x1, x2, x3, x4⟩ := x
        obtain ⟨y1, y2, y3, y4⟩ := y
        have hne := fun W => neq_line W x1 x2 x3 x4 y1 y2 y3 y4
        clear hxx hyy
        simp only at f1 f2 f3 f4 g1 g2 g3 g4
        cases hq : (((x1, x2, x3, x4) : Ln) == (y1, y2, y3, y4)) with
        | false =>
          rw [hq] at hne
          have HQ := Lib.hid hq
          clear hq
          go_wp2_with fail
          go_region
          all_goals
            go_wp2_with fail
            go_ret
            exact ⟨ret_bool (ne_at hlt1 hlt2 (by rw [← HX.out, ← HY.out]; exact HQ.out)).symm, hx.drew⟩
        | true =>
          rw [hq] at hne
          have HQ := Lib.hid (show ((x1, x2, x3, x4) : Ln) = (y1, y2, y3, y4) from by simpa using hq)
          clear hq
          go_wp2_with fail
          go_region
          all_goals
            go_wp2_with fail
            refine ⟨⟨i + 1, by omega, by go_num, fun j h1 h2 hj => ?_, hx.drew⟩, by simp [intOf]; omega⟩
            rcases Nat.lt_succ_iff_lt_or_eq.1 hj with hj | rfl
            · exact HA.out j h1 h2 hj
            · rw [← HX.out, ← HY.out]; exact HQ.out
      · have e : i = n := by omega
        subst e
        go_wp2_with fail
        go_ret
        exact ⟨ret_bool (eq_at HL.out (fun j h1 h2 => HA.out j h1 h2 (by rw [HN.out]; exact h1))).symm, hx⟩
  · have HE := Lib.hid (show (l == m) = false by rw [beq_eq_false_iff_ne]; exact fun e => hl (by rw [e]))
    have hl' : ¬ ((l.length : Int) = m.length) := by omega
    go_enter Tryz.func13, Tryz.ntmps13
    go_wp2_with fail
    go_ret
    exact ⟨ret_bool HE.out.symm, Ext.refl _ _⟩

theorem flat_set (l : List Ln) : ∀ (i : Nat) (y : Ln), i < l.length → ((((l.flatMap lnC).set (i * 4) (.int .i64 y.1)).set (i * 4 + 1) (.int .i64 y.2.1)).set (i * 4 + 2) (.int .i64 y.2.2.1)).set (i * 4 + 3) (.int .i64 y.2.2.2) = (l.set i y).flatMap lnC := by
  induction l with
  | nil => intro i y h; simp at h
  | cons a l ih =>
    intro i y h
    cases i with
    | zero => simp [lnC]
    | succ i =>
      have := ih i y (by simpa using h)
      have e : (i + 1) * 4 = i * 4 + 1 + 1 + 1 + 1 := by omega
      simp only [List.flatMap_cons, lnC, e, List.cons_append, List.nil_append, List.set_cons_succ] at this ⊢
      rw [this]
theorem own_set4 {w : World} {base T g n cap : Nat} {l : List Ln} (h : w.ownsRow base T 4 (.slice (some ⟨g, 0, none⟩) n cap) n (l.flatMap lnC)) {i : Nat} (hi : i < l.length) (y : Ln) :
    ((((w.setCell ⟨g, i * 4, none⟩ (.int .i64 y.1)).setCell ⟨g, i * 4 + 1, none⟩ (.int .i64 y.2.1)).setCell ⟨g, i * 4 + 2, none⟩ (.int .i64 y.2.2.1)).setCell ⟨g, i * 4 + 3, none⟩ (.int .i64 y.2.2.2)).ownsRow base T 4 (.slice (some ⟨g, 0, none⟩) n cap) n ((l.set i y).flatMap lnC) := by
  obtain ⟨hl, ⟨h0, _⟩ | ⟨g', cap', cur, hv, hb, hg, h1, h2, h3, h4⟩⟩ := h
  · cases h0
  · cases hv
    refine ⟨by rw [← flat_set l i y hi]; simpa using hl, .inr ⟨g, cap, _, rfl, hb, setCell_at (setCell_at (setCell_at (setCell_at hg _) _) _) _, h1, h2, by simpa using h3, ?_⟩⟩
    rw [← flat_set l i y hi, ← h4]
    simp only [Array.toList_setIfInBounds, List.take_set]
theorem ext_set4 (w : World) (g i : Nat) (y : Ln) : Ext [g] w ((((w.setCell ⟨g, i * 4, none⟩ (.int .i64 y.1)).setCell ⟨g, i * 4 + 1, none⟩ (.int .i64 y.2.1)).setCell ⟨g, i * 4 + 2, none⟩ (.int .i64 y.2.2.1)).setCell ⟨g, i * 4 + 3, none⟩ (.int .i64 y.2.2.2)) :=
  ((((Ext.refl [g] w).setCell (fun _ => by simp) _).setCell (fun _ => by simp) _).setCell (fun _ => by simp) _).setCell (fun _ => by simp) _

theorem lines_Reverse {base : Nat} {v : Value} {l : List Ln} (hl : OwnL base w v l) (hn : l.length ≤ 1048576) :
    Calls Tryz.prog 19 #[v] w fun e w' => e = .returned (.tuple #[]) ∧ OwnL base w' v l.reverse ∧ Ext v.ownBlock.toList w w' := by
  obtain ⟨p, c, rfl, g1, g2⟩ := own_size hl.own
  go_enter Tryz.func19, Tryz.ntmps19
  go_wp2_with fail
  go_loopw [2, 3] (fun x y wr => ∃ (i : Nat) (L : List Ln), x = .int .i64 i ∧ y = .int .i64 ((l.length : Int) - 1 - i) ∧ L.length = l.length ∧ (2 * i ≤ l.length + 1) ∧ OwnL base wr (.slice p l.length c) L ∧ (∀ t, t < l.length → L[t]? = if t < i ∨ l.length - 1 - i < t then l[l.length - 1 - t]? else l[t]?) ∧ Ext (Value.ownBlock (.slice p l.length c)).toList w wr) (fun x y _ => (intOf y - intOf x + 1).toNat)
  case atStart => exact ⟨0, l, rfl, by simp, rfl, by omega, hl, fun t ht => by rw [if_neg (by omega)], Ext.refl _ _⟩
  case round =>
    obtain ⟨i, L, rfl, rfl, hLl, hi2, ho, hL, hx⟩ := hrel
    by_cases hlt : (i : Int) < (l.length : Int) - 1 - i
    · obtain ⟨j, hj⟩ : ∃ j : Nat, (l.length : Int) - 1 - i = j := ⟨l.length - 1 - i, by omega⟩
      rw [hj]
      have hjl : j < L.length := by omega
      have hil : i < L.length := by omega
      obtain ⟨g, rfl⟩ : ∃ g, p = some ⟨g, 0, none⟩ := by
        obtain ⟨_, ⟨h0, h00⟩ | ⟨g, cap, cur, hv, _⟩⟩ := hl
        · omega
        · injection hv with hv; exact ⟨g, hv⟩
      have ho1 := ho.own
      rw [hLl] at ho1
      obtain ⟨cur, hg, hcs, _⟩ := own_cells ho1
      have zi0 : wr.drew.frozen? ⟨g, i * 4, none⟩ = false := frozen_of_row wr.drew g _ _ _ hg
      have zi1 : wr.drew.frozen? ⟨g, i * 4 + 1, none⟩ = false := frozen_of_row wr.drew g _ _ _ hg
      have zi2 : wr.drew.frozen? ⟨g, i * 4 + 2, none⟩ = false := frozen_of_row wr.drew g _ _ _ hg
      have zi3 : wr.drew.frozen? ⟨g, i * 4 + 3, none⟩ = false := frozen_of_row wr.drew g _ _ _ hg
      have zj0 : wr.drew.frozen? ⟨g, j * 4, none⟩ = false := frozen_of_row wr.drew g _ _ _ hg
      have zj1 : wr.drew.frozen? ⟨g, j * 4 + 1, none⟩ = false := frozen_of_row wr.drew g _ _ _ hg
      have zj2 : wr.drew.frozen? ⟨g, j * 4 + 2, none⟩ = false := frozen_of_row wr.drew g _ _ _ hg
      have zj3 : wr.drew.frozen? ⟨g, j * 4 + 3, none⟩ = false := frozen_of_row wr.drew g _ _ _ hg
      have hod := ho.then (Ext.refl [] wr).drew
      obtain ⟨f1, f2, f3, f4⟩ := hod.rd.at hil
      obtain ⟨d1, d2, d3, d4⟩ := hod.rd.at hjl
      simp only [Nat.zero_add] at f1 f2 f3 f4 d1 d2 d3 d4
      obtain ⟨x, hx'⟩ : ∃ x, x = L[i] := ⟨_, rfl⟩
      obtain ⟨y, hy'⟩ : ∃ y, y = L[j] := ⟨_, rfl⟩
      rw [← hx'] at f1 f2 f3 f4
      rw [← hy'] at d1 d2 d3 d4
      have HX := Lib.hid hx'
      have HY := Lib.hid hy'
      have HJ := Lib.hid hj
      have hij : (i : Int) < (j : Int) := by omega
      have hjc : j < l.length := by omega
      have hic : i < l.length := by omega
      have yi0 : wr.frozen? ⟨g, i * 4, none⟩ = false := frozen_of_row wr g _ _ _ hg
      have yi1 : wr.frozen? ⟨g, i * 4 + 1, none⟩ = false := frozen_of_row wr g _ _ _ hg
      have yi2 : wr.frozen? ⟨g, i * 4 + 2, none⟩ = false := frozen_of_row wr g _ _ _ hg
      have yi3 : wr.frozen? ⟨g, i * 4 + 3, none⟩ = false := frozen_of_row wr g _ _ _ hg
      have yj0 : wr.frozen? ⟨g, j * 4, none⟩ = false := frozen_of_row wr g _ _ _ hg
      have yj1 : wr.frozen? ⟨g, j * 4 + 1, none⟩ = false := frozen_of_row wr g _ _ _ hg
      have yj2 : wr.frozen? ⟨g, j * 4 + 2, none⟩ = false := frozen_of_row wr g _ _ _ hg
      have yj3 : wr.frozen? ⟨g, j * 4 + 3, none⟩ = false := frozen_of_row wr g _ _ _ hg
      have h1 : wr.cell? ⟨g, i * 4, none⟩ = some (.int .i64 x.1) := f1
      have h2 : wr.cell? ⟨g, i * 4 + 1, none⟩ = some (.int .i64 x.2.1) := f2
      have h3 : wr.cell? ⟨g, i * 4 + 2, none⟩ = some (.int .i64 x.2.2.1) := f3
      have h4 : wr.cell? ⟨g, i * 4 + 3, none⟩ = some (.int .i64 x.2.2.2) := f4
      have k1 : wr.cell? ⟨g, j * 4, none⟩ = some (.int .i64 y.1) := d1
      have k2 : wr.cell? ⟨g, j * 4 + 1, none⟩ = some (.int .i64 y.2.1) := d2
      have k3 : wr.cell? ⟨g, j * 4 + 2, none⟩ = some (.int .i64 y.2.2.1) := d3
      have k4 : wr.cell? ⟨g, j * 4 + 3, none⟩ = some (.int .i64 y.2.2.2) := d4
      clear hx' hy' hj hlt
      go_wp2_with fail
      go_region
      all_goals
        go_wp2_with fail
        have hJ := HJ.out
        have s1 := own_set4 ho1 hil y
        have s2 := own_set4 s1 (i := j) (by simpa using hjl) x
        have ex := (ext_set4 wr g i y).same (ext_set4 _ g j x)
        have hxi : l[i]? = some x := by
          have := hL i (by omega)
          rw [if_neg (by omega), List.getElem?_eq_getElem hil, ← HX.out] at this
          exact this.symm
        have hyj : l[j]? = some y := by
          have := hL j (by omega)
          rw [if_neg (by omega), List.getElem?_eq_getElem hjl, ← HY.out] at this
          exact this.symm
        refine ⟨⟨i + 1, (L.set i y).set j x, by go_num, by congr 1; omega, by simpa using hLl, by omega, ?_, fun t ht => ?_, (hx.same (by simpa [Value.ownBlock] using ex)).drew⟩, by simp [intOf]; omega⟩
        · unfold OwnL
          rw [List.length_set, List.length_set, hLl]
          exact own_then s2 (Ext.refl [] _).drew
        · have e1 : ((L.set i y).set j x)[t]? = if j = t then some x else if i = t then some y else L[t]? := by
            rw [List.getElem?_set, List.getElem?_set]
            by_cases q1 : j = t
            · subst q1; simp [hjl]
            · by_cases q2 : i = t
              · subst q2; simp [q1, hil]
              · simp [q1, q2]
          rw [e1]
          by_cases q1 : j = t
          · subst q1
            rw [if_pos rfl, if_pos (by omega), show l.length - 1 - j = i by omega, hxi]
          · rw [if_neg q1]
            by_cases q2 : i = t
            · subst q2
              rw [if_pos rfl, if_pos (by omega), show l.length - 1 - i = j by omega, hyj]
            · rw [if_neg q2, hL t ht]
              by_cases q3 : t < i ∨ l.length - 1 - i < t
              · rw [if_pos q3, if_pos (by omega)]
              · rw [if_neg q3, if_neg (by omega)]
    · go_wp2_with fail
      go_end0
      have e : L = l.reverse := by
        apply List.ext_getElem?
        intro t
        by_cases ht : t < l.length
        · rw [hL t ht, List.getElem?_reverse ht]
          by_cases q3 : t < i ∨ l.length - 1 - i < t
          · rw [if_pos q3]
          · rw [if_neg q3, show l.length - 1 - t = t by omega]
        · rw [List.getElem?_eq_none (by omega), List.getElem?_eq_none (by simpa using ht)]
      subst e
      exact ⟨rfl, ho, hx⟩
end Go.Proofs.YtbbfgbkbdhghbaaGreatDoor
