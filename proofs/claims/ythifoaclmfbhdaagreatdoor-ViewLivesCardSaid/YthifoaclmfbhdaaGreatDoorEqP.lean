/-
  Two lists of pairs, or of bytes, compared element by element.
-/
import Derived.Test.YthifoaclmfbhdaaGreatDoorScan4
set_option linter.unusedVariables false
set_option linter.unusedSimpArgs false
namespace Go.Proofs.YthifoaclmfbhdaaGreatDoor
open Go.RowKit

theorem pairs_1 {W : World} {k1 v1 k2 v2 : Value} {p q : Bytes × Bytes} (h1 : PairH W (k1, v1) p) (h2 : PairH W (k2, v2) q) :
    Calls Tryz.prog 58 #[.agg #[k1, v1], .agg #[k2, v2]] W fun e w' => e = .returned (.bool (p == q)) ∧ Ext [] W w' := by
  obtain ⟨a, b⟩ := p
  obtain ⟨c, d⟩ := q
  obtain ⟨h1, h3⟩ := h1
  obtain ⟨h2, h4⟩ := h2
  simp only at h1 h2 h3 h4
  obtain ⟨p1, c1, rfl, _, _⟩ := h1.shape
  obtain ⟨p2, c2, rfl, _, _⟩ := h2.shape
  obtain ⟨p3, c3, rfl, _, _⟩ := h3.shape
  obtain ⟨p4, c4, rfl, _, _⟩ := h4.shape
  have x := ((Ext.refl [] W).alloc (.cells #[.slice p1 a.length c1, .slice p3 b.length c3] 56)).alloc (.cells #[.slice p2 c.length c2, .slice p4 d.length c4] 56)
  have hE1 := bytes_Equal _ _ _ _ _ (h1.then x) (h2.then x)
  have hE2 := bytes_Equal _ _ _ _ _ (h3.then x) (h4.then x)
  have HE := Lib.hid (show (((a, b) : Bytes × Bytes) == (c, d)) = (a == c && b == d) from rfl)
  cases hq : (a == c) with
  | false =>
    rw [hq] at hE1
    have HQ := Lib.hid hq
    clear hq h1 h2 h3 h4 hE2
    go_enter Tryz.func58, Tryz.ntmps58
    go_wp2_with (go_at_call 21; refine hE1.mono ?_; rintro e w' ⟨rfl, rfl⟩)
    go_ret
    exact ⟨ret_bool (by rw [HE.out, HQ.out]; rfl), x⟩
  | true =>
    rw [hq] at hE1
    have HQ := Lib.hid hq
    clear hq h1 h2 h3 h4
    go_enter Tryz.func58, Tryz.ntmps58
    iterate 60 (first | at_builtin | go_step | skip)
    go_at_call 21
    refine hE1.mono ?_
    rintro e w' ⟨rfl, rfl⟩
    go_wp2_with (go_at_call 21; refine hE2.mono ?_; rintro e w' ⟨rfl, rfl⟩)
    go_ret
    exact ⟨ret_bool (by rw [HE.out, HQ.out]; rfl), x⟩

theorem eq_at {α : Type} [BEq α] [LawfulBEq α] {l m : List α} (hl : l.length = m.length) (h : ∀ (j : Nat) (h1 : j < l.length) (h2 : j < m.length), l[j] = m[j]) : (l == m) = true := by
  rw [beq_iff_eq]
  exact List.ext_getElem hl h
theorem ne_at {α : Type} [BEq α] [LawfulBEq α] {l m : List α} {j : Nat} (h1 : j < l.length) (h2 : j < m.length) (h : (l[j] == m[j]) = false) : (l == m) = false := by
  rw [beq_eq_false_iff_ne] at h ⊢
  intro e
  subst e
  exact h rfl

theorem pairs_EqualFunc {w : World} {u v : Value} {hs ks : List (Value × Value)} {l m : Tbl} (hu : RdP w u hs l) (hv : RdP w v ks m) :
    Calls Tryz.prog 57 #[u, v, .func (.func 58) #[] #[]] w fun e w' => e = .returned (.bool (l == m)) ∧ Ext [] w w' := by
  obtain ⟨p1, c1, rfl, g11, g12⟩ := hu.1.shape
  obtain ⟨p2, c2, rfl, g21, g22⟩ := hv.1.shape
  by_cases hl : l.length = m.length
  · have hl' : (l.length : Int) = m.length := by omega
    have HL := Lib.hid hl
    obtain ⟨n, hn⟩ : ∃ n, n = l.length := ⟨_, rfl⟩
    have hm : m.length = n := by omega
    have HN := Lib.hid hn
    have HM := Lib.hid hm
    rw [← hn] at g11 ⊢
    rw [hm] at g21 ⊢
    clear hl hl' hn hm
    go_enter Tryz.func57, Tryz.ntmps57
    go_wp2_with fail
    go_loopw [17] (fun x wr => ∃ i : Nat, i ≤ n ∧ x = .int .i64 i ∧ (∀ (j : Nat) (h1 : j < l.length) (h2 : j < m.length), j < i → l[j] = m[j]) ∧ Ext [] w wr) (fun x _ => n - (intOf x).toNat)
    case atStart => exact ⟨0, Nat.zero_le _, rfl, fun j _ _ h => by omega, Ext.refl _ _⟩
    case round =>
      obtain ⟨i, hi, rfl, hall, hx⟩ := hrel
      by_cases hlt : i < n
      · have hlt1 : i < l.length := by rw [← HN.out]; exact hlt
        have hlt2 : i < m.length := by rw [HM.out]; exact hlt
        have hu2 := hu.then hx
        rw [← HN.out] at hu2
        obtain ⟨b1, o1, c1', hp1, _⟩ := hu.1.at (by omega)
        obtain ⟨b2, o2, c2', hp2, _⟩ := hv.1.at (by omega)
        injection hp1 with hp1 _ hc1
        injection hp2 with hp2 _ hc2
        subst hp1; subst hp2; subst hc1; subst hc2
        obtain ⟨k1, x1, _, f1, f2, hk1, hx1⟩ := hu2.at hlt1
        have xa := hx.alloc (.cells #[k1, x1] 56)
        have hv2 := hv.then xa
        rw [HM.out] at hv2
        obtain ⟨k2, x2, _, f3, f4, hk2, hx2⟩ := hv2.at hlt2
        have ya := ((Ext.refl [] wr).alloc (.cells #[k1, x1] 56)).alloc (.cells #[k2, x2] 56)
        have yb := (Ext.refl [] (wr.alloc (.cells #[k1, x1] 56))).alloc (.cells #[k2, x2] 56)
        have xb := hx.then ya
        have hS := pairs_1 (p := l[i]) (q := m[i]) ⟨hk1.then ya, hx1.then ya⟩ ⟨hk2.then yb, hx2.then yb⟩
        obtain ⟨q1, d1, rfl, _, _⟩ := hk1.shape
        obtain ⟨q2, d2, rfl, _, _⟩ := hk2.shape
        obtain ⟨q3, d3, rfl, _, _⟩ := hx1.shape
        obtain ⟨q4, d4, rfl, _, _⟩ := hx2.shape
        have HA := Lib.hid hall
        clear hall hu2 hv2 hk1 hk2 hx1 hx2
        cases hq : (l[i] == m[i]) with
        | false =>
          rw [hq] at hS
          have HQ := Lib.hid hq
          clear hq
          iterate 80 (first | at_builtin | go_step | skip)
          go_at_call 58
          refine hS.mono ?_
          rintro e w2 ⟨rfl, y2⟩
          go_wp2_with fail
          go_ret
          exact ⟨ret_bool (ne_at hlt1 hlt2 HQ.out).symm, xb.then y2⟩
        | true =>
          rw [hq] at hS
          have HQ := Lib.hid (show l[i] = m[i] from by simpa using hq)
          clear hq
          iterate 80 (first | at_builtin | go_step | skip)
          go_at_call 58
          refine hS.mono ?_
          rintro e w2 ⟨rfl, y2⟩
          go_wp2_with fail
          go_roundw
          case rel =>
            refine ⟨i + 1, by omega, by go_num, fun j h1 h2 hj => ?_, xb.then y2⟩
            rcases Nat.lt_succ_iff_lt_or_eq.1 hj with hj | rfl
            · exact HA.out j h1 h2 hj
            · exact HQ.out
          case measure => simp [intOf]; omega
      · have HA := Lib.hid hall
        clear hall
        have e : i = n := by omega
        subst e
        go_wp2_with fail
        go_ret
        exact ⟨ret_bool (eq_at HL.out (fun j h1 h2 => HA.out j h1 h2 (by rw [HN.out]; exact h1))).symm, hx⟩
  · have HE := Lib.hid (show (l == m) = false by rw [beq_eq_false_iff_ne]; exact fun e => hl (by rw [e]))
    have hl' : ¬ ((l.length : Int) = m.length) := by omega
    go_enter Tryz.func57, Tryz.ntmps57
    go_wp2_with fail
    go_ret
    exact ⟨ret_bool HE.out.symm, Ext.refl _ _⟩

/-- lists of bytes that are read -/
def RdD (w : World) (v : Value) (hs : List Value) (l : List Bytes) : Prop := Sl w 22 v l.length hs ∧ Rel2 (fun h b => Bs 5 w h b) hs l
theorem RdD.then {w w' : World} {v : Value} {hs : List Value} {l : List Bytes} (h : RdD w v hs l) (e : Ext [] w w') : RdD w' v hs l := ⟨h.1.then e, h.2.imp fun _ _ q => q.then e⟩
theorem OwnD.rd {base : Nat} {w : World} {v : Value} {l : List Bytes} (h : OwnD base w v l) : ∃ hs, RdD w v hs l := by
  obtain ⟨hs, ho, hr⟩ := h
  exact ⟨hs, Sl.of_own ho (by decide), hr⟩
theorem RdD.at {w : World} {b off c n : Nat} {hs : List Value} {l : List Bytes} (h : RdD w (.slice (some ⟨b, off, none⟩) n c) hs l) {i : Nat} (hi : i < l.length) :
    ∃ x, w.cell? ⟨b, off + i, none⟩ = some x ∧ Bs 5 w x l[i] := by
  obtain ⟨hsl, hrel⟩ := h
  obtain ⟨x, he, h1⟩ := hrel.get i l[i] (by simp [hi])
  obtain ⟨b', off', c', hp, hrow⟩ := hsl.at (by omega)
  injection hp with hp _ _
  injection hp with hp
  injection hp with q1 q2
  subst q1; subst q2
  exact ⟨x, hrow.cell he, h1⟩

theorem bytes_EqualFunc {w : World} {u v : Value} {hs ks : List Value} {l m : List Bytes} (hu : RdD w u hs l) (hv : RdD w v ks m) :
    Calls Tryz.prog 60 #[u, v, .func (.func 21) #[] #[]] w fun e w' => e = .returned (.bool (l == m)) ∧ Ext [] w w' := by
  obtain ⟨p1, c1, rfl, g11, g12⟩ := hu.1.shape
  obtain ⟨p2, c2, rfl, g21, g22⟩ := hv.1.shape
  by_cases hl : l.length = m.length
  · have HL := Lib.hid hl
    obtain ⟨n, hn⟩ : ∃ n, n = l.length := ⟨_, rfl⟩
    have hm : m.length = n := by omega
    have HN := Lib.hid hn
    have HM := Lib.hid hm
    rw [← hn] at g11 ⊢
    rw [hm] at g21 ⊢
    clear hl hn hm
    go_enter Tryz.func60, Tryz.ntmps60
    go_wp2_with fail
    go_loopw [17] (fun x wr => ∃ i : Nat, i ≤ n ∧ x = .int .i64 i ∧ (∀ (j : Nat) (h1 : j < l.length) (h2 : j < m.length), j < i → l[j] = m[j]) ∧ Ext [] w wr) (fun x _ => n - (intOf x).toNat)
    case atStart => exact ⟨0, Nat.zero_le _, rfl, fun j _ _ h => by omega, Ext.refl _ _⟩
    case round =>
      obtain ⟨i, hi, rfl, hall, hx⟩ := hrel
      by_cases hlt : i < n
      · have hlt1 : i < l.length := by rw [← HN.out]; exact hlt
        have hlt2 : i < m.length := by rw [HM.out]; exact hlt
        have hu2 := hu.then hx
        have hv2 := hv.then hx
        rw [← HN.out] at hu2
        rw [HM.out] at hv2
        obtain ⟨b1, o1, c1', hp1, _⟩ := hu.1.at (by omega)
        obtain ⟨b2, o2, c2', hp2, _⟩ := hv.1.at (by omega)
        injection hp1 with hp1 _ hc1
        injection hp2 with hp2 _ hc2
        subst hp1; subst hp2; subst hc1; subst hc2
        obtain ⟨x1, f1, hk1⟩ := hu2.at hlt1
        obtain ⟨x2, f3, hk2⟩ := hv2.at hlt2
        have hS := bytes_Equal _ _ _ _ _ hk1 hk2
        obtain ⟨q1, d1, rfl, _, _⟩ := hk1.shape
        obtain ⟨q2, d2, rfl, _, _⟩ := hk2.shape
        have HA := Lib.hid hall
        clear hall hu2 hv2 hk1 hk2
        cases hq : (l[i] == m[i]) with
        | false =>
          rw [hq] at hS
          have HQ := Lib.hid hq
          clear hq
          iterate 80 (first | at_builtin | go_step | skip)
          go_at_call 21
          refine hS.mono ?_
          rintro e w2 ⟨rfl, rfl⟩
          go_wp2_with fail
          go_ret
          exact ⟨ret_bool (ne_at hlt1 hlt2 HQ.out).symm, hx⟩
        | true =>
          rw [hq] at hS
          have HQ := Lib.hid (show l[i] = m[i] from by simpa using hq)
          clear hq
          iterate 80 (first | at_builtin | go_step | skip)
          go_at_call 21
          refine hS.mono ?_
          rintro e w2 ⟨rfl, rfl⟩
          go_wp2_with fail
          go_roundw
          case rel =>
            refine ⟨i + 1, by omega, by go_num, fun j h1 h2 hj => ?_, hx⟩
            rcases Nat.lt_succ_iff_lt_or_eq.1 hj with hj | rfl
            · exact HA.out j h1 h2 hj
            · exact HQ.out
          case measure => simp [intOf]; omega
      · have HA := Lib.hid hall
        clear hall
        have e : i = n := by omega
        subst e
        go_wp2_with fail
        go_ret
        exact ⟨ret_bool (eq_at HL.out (fun j h1 h2 => HA.out j h1 h2 (by rw [HN.out]; exact h1))).symm, hx⟩
  · have HE := Lib.hid (show (l == m) = false by rw [beq_eq_false_iff_ne]; exact fun e => hl (by rw [e]))
    have hl' : ¬ ((l.length : Int) = m.length) := by omega
    go_enter Tryz.func60, Tryz.ntmps60
    go_wp2_with fail
    go_ret
    exact ⟨ret_bool HE.out.symm, Ext.refl _ _⟩

/-- exchequerplain.Pairs, Bytes -/
theorem plain_Pairs {w : World} {u v : Value} {hs ks : List (Value × Value)} {l m : Tbl} (hu : RdP w u hs l) (hv : RdP w v ks m) :
    Calls Tryz.prog 35 #[u, v] w fun e w' => e = .returned (.bool (l == m)) ∧ Ext [] w w' := by
  obtain ⟨p1, c1, rfl, g11, g12⟩ := hu.1.shape
  obtain ⟨p2, c2, rfl, g21, g22⟩ := hv.1.shape
  have hE := pairs_EqualFunc hu hv
  go_enter Tryz.func35, Tryz.ntmps35
  go_wp2_with (go_at_call 57; refine hE.mono ?_; rintro e w' ⟨rfl, hx⟩)
  go_ret
  exact ⟨rfl, hx⟩
theorem plain_Bytes {w : World} {u v : Value} {hs ks : List Value} {l m : List Bytes} (hu : RdD w u hs l) (hv : RdD w v ks m) :
    Calls Tryz.prog 40 #[u, v] w fun e w' => e = .returned (.bool (l == m)) ∧ Ext [] w w' := by
  obtain ⟨p1, c1, rfl, g11, g12⟩ := hu.1.shape
  obtain ⟨p2, c2, rfl, g21, g22⟩ := hv.1.shape
  have hE := bytes_EqualFunc hu hv
  go_enter Tryz.func40, Tryz.ntmps40
  go_wp2_with (go_at_call 60; refine hE.mono ?_; rintro e w' ⟨rfl, hx⟩)
  go_ret
  exact ⟨rfl, hx⟩
end Go.Proofs.YthifoaclmfbhdaaGreatDoor
