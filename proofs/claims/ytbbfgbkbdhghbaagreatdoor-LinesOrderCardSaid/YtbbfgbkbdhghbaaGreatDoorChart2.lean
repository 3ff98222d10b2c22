/-
  chart over a view in memory: Fund, Funds, Object, NewFund.
-/
import Derived.Test.YtbbfgbkbdhghbaaGreatDoorChart
import Derived.Test.YtbbfgbkbdhghbaaGreatDoorPutA
set_option linter.unusedVariables false
set_option linter.unusedSimpArgs false
namespace Go.Proofs.YtbbfgbkbdhghbaaGreatDoor
open Go.RowKit
variable {w : World} {V : VW} {n : Nat} {was now : Tbl}

theorem lit_i1 (w : World) (n : Int) : Is (w.alloc (.cells #[.int .i64 n] 3)) (.slice (some ⟨w.heap.size, 0, none⟩) 1 1) [n] :=
  Sl.lit 3 1 #[.int .i64 n] 1 (by decide) rfl w (by decide)

theorem chart_Fund (h : IsView w V n was now) (f : Int) :
    Calls Tryz.prog 25 #[.pointer (some ⟨V.s, 0, none⟩), .int .i64 f] w fun e w' => e = .returned (.tuple #[.string (str ((tget now (key 70 [f])).getD [])), .bool (tget now (key 70 [f])).isSome]) ∧ Ext [] w w' := by
  have hlit := lit_i1 w f
  have x0 := (Ext.refl [] w).alloc (.cells #[.int .i64 f] 3)
  have hK := keys_Key 70 _ [f] _ hlit (by simp)
  go_enter Tryz.func25, Tryz.ntmps25
  iterate 60 (first | at_builtin | go_step | skip)
  go_at_call 28
  refine hK.mono ?_
  rintro e w1 ⟨r1, rfl, k1, x1⟩
  dsimp only
  iterate 60 (first | at_builtin | go_step | skip)
  go_at_call 47
  refine (view_Get (h.then (x0.then x1)) _ (key 70 [f]) k1.bs).mono ?_
  rintro e w2 ⟨r2, rfl, k2, x2⟩
  have hst := run_str (P := Tryz.prog) (w := w2) Tryz.underlying63 Tryz.underlying5 Tryz.underlying9 k2.bs
  have hst2 := run_str (P := Tryz.prog) (w := w2.drew) Tryz.underlying63 Tryz.underlying5 Tryz.underlying9 (k2.bs.then (Ext.refl [] w2).drew)
  dsimp only
  go_wp2_with fail
  go_ret2
  exact ⟨rfl, (x0.then x1).then x2⟩

theorem chart_Funds (h : IsView w V n was now) (hn : n ≤ 1048576) :
    Calls Tryz.prog 26 #[.pointer (some ⟨V.s, 0, none⟩)] w fun e w' => ∃ r, e = .returned r ∧ NewI w w' r (allNums now 70) ∧ Ext [] w w' := by
  have hA := chart_all h hn 70
  go_enter Tryz.func26, Tryz.ntmps26
  go_wp2_with (go_at_call 48; refine hA.mono ?_; rintro e w1 ⟨r1, rfl, k1, x1⟩)
  go_ret
  exact ⟨_, rfl, k1, x1⟩

theorem chart_Object (h : IsView w V n was now) (o : Int) :
    Calls Tryz.prog 36 #[.pointer (some ⟨V.s, 0, none⟩), .int .i64 o] w fun e w' => e = .returned (.bool (fixedO o || (tget now (key 79 [o])).isSome)) ∧ Ext [] w w' := by
  have hlit := lit_i1 w o
  have x0 := (Ext.refl [] w).alloc (.cells #[.int .i64 o] 3)
  have hK := keys_Key 79 _ [o] _ hlit (by simp)
  have hF := code_Fixed o w
  cases hq : fixedO o with
  | true =>
    rw [hq] at hF
    go_enter Tryz.func36, Tryz.ntmps36
    go_wp2_with (go_at_call 57; refine hF.mono ?_; rintro e w1 ⟨rfl, rfl⟩)
    go_ret
    exact ⟨rfl, Ext.refl _ _⟩
  | false =>
    rw [hq] at hF
    go_enter Tryz.func36, Tryz.ntmps36
    go_wp2_with (first
      | (go_at_call 57; refine hF.mono ?_; rintro e w1 ⟨rfl, rfl⟩)
      | (go_at_call 28; refine hK.mono ?_; rintro e w1 ⟨r1, rfl, k1, x1⟩)
      | (go_at_call 47; refine (view_Get (h.then (x0.then x1)) _ (key 79 [o]) k1.bs).mono ?_; rintro e w2 ⟨r2, rfl, k2, x2⟩))
    go_ret
    exact ⟨ret_bool (by simp), (x0.then x1).then x2⟩

def newFund (now : Tbl) (f : Int) (name : Bytes) : Int × Tbl :=
  if !(fundOk f && nameOk name) then (1, now) else if (tget now (key 70 [f])).isSome then (8, now) else if 40 ≤ (allNums now 70).length then (11, now) else (putE (key 70 [f]) name, putT now (key 70 [f]) name)

theorem chart_NewFund (h : IsView w V n was now) (hn : n ≤ 1048576) (f : Int) (name : Bytes) (hl : name.length ≤ 1048576) :
    Calls Tryz.prog 9 #[.pointer (some ⟨V.s, 0, none⟩), .int .i64 f, .string (str name)] w fun e w' => e = .returned (.int .i64 (newFund now f name).1) ∧ IsView w' V (n + 1) was (newFund now f name).2 ∧ Ext V.M w w' := by
  have hF := code_Fund f w
  have hN := chart_Name name w hl
  cases ha : fundOk f with
  | false =>
    have HE := Lib.hid (show newFund now f name = (1, now) by simp [newFund, ha])
    rw [ha] at hF
    go_enter Tryz.func9, Tryz.ntmps9
    go_wp2_with (go_at_call 23; refine hF.mono ?_; rintro e w1 ⟨rfl, rfl⟩)
    go_ret
    rw [HE.out]
    exact ⟨rfl, h.mono (by omega), Ext.refl _ _⟩
  | true =>
    rw [ha] at hF
    cases hb : nameOk name with
    | false =>
      have HE := Lib.hid (show newFund now f name = (1, now) by simp [newFund, ha, hb])
      rw [hb] at hN
      go_enter Tryz.func9, Tryz.ntmps9
      go_wp2_with (first
        | (go_at_call 23; refine hF.mono ?_; rintro e w1 ⟨rfl, rfl⟩)
        | (go_at_call 24; refine hN.mono ?_; rintro e w1 ⟨rfl, x1⟩))
      go_ret
      rw [HE.out]
      exact ⟨rfl, (h.then x1).mono (by omega), x1.of_old⟩
    | true =>
      rw [hb] at hN
      cases hc : (tget now (key 70 [f])).isSome with
      | true =>
        have HE := Lib.hid (show newFund now f name = (8, now) by simp [newFund, ha, hb, hc])
        go_enter Tryz.func9, Tryz.ntmps9
        go_wp2_with (first
          | (go_at_call 23; refine hF.mono ?_; rintro e w1 ⟨rfl, rfl⟩)
          | (go_at_call 24; refine hN.mono ?_; rintro e w1 ⟨rfl, x1⟩)
          | (go_at_call 25; refine (chart_Fund (h.then x1) f).mono ?_; rintro e w2 ⟨rfl, x2⟩; rw [hc]))
        go_ret
        rw [HE.out]
        exact ⟨rfl, (h.then (x1.then x2)).mono (by omega), (x1.then x2).of_old⟩
      | false =>
        by_cases hd : 40 ≤ (allNums now 70).length
        · have HE := Lib.hid (show newFund now f name = (11, now) by simp [newFund, ha, hb, hc, hd])
          have hd' : (40 : Int) ≤ ((allNums now 70).length : Int) := by omega
          go_enter Tryz.func9, Tryz.ntmps9
          go_wp2_with (first
            | (go_at_call 23; refine hF.mono ?_; rintro e w1 ⟨rfl, rfl⟩)
            | (go_at_call 24; refine hN.mono ?_; rintro e w1 ⟨rfl, x1⟩)
            | (go_at_call 25; refine (chart_Fund (h.then x1) f).mono ?_; rintro e w2 ⟨rfl, x2⟩; rw [hc])
            | (go_at_call 26; refine (chart_Funds (h.then (x1.then x2)) hn).mono ?_; rintro e w3 ⟨r3, rfl, k3, x3⟩; obtain ⟨p3, c3, rfl, _, _⟩ := own_size k3))
          go_ret
          rw [HE.out]
          exact ⟨rfl, (h.then ((x1.then x2).then x3)).mono (by omega), ((x1.then x2).then x3).of_old⟩
        · have HE := Lib.hid (show newFund now f name = (putE (key 70 [f]) name, putT now (key 70 [f]) name) by simp [newFund, ha, hb, hc, hd])
          have hd' : ¬ (40 : Int) ≤ ((allNums now 70).length : Int) := by omega
          have hcv := run_cvb name
          clear hd
          go_enter Tryz.func9, Tryz.ntmps9
          go_wp2_with (first
            | (go_at_call 23; refine hF.mono ?_; rintro e w1 ⟨rfl, rfl⟩)
            | (go_at_call 24; refine hN.mono ?_; rintro e w1 ⟨rfl, x1⟩)
            | (go_at_call 25; refine (chart_Fund (h.then x1) f).mono ?_; rintro e w2 ⟨rfl, x2⟩; rw [hc])
            | (go_at_call 26; refine (chart_Funds (h.then (x1.then x2)) hn).mono ?_; rintro e w3 ⟨r3, rfl, k3, x3⟩; obtain ⟨p3, c3, rfl, _, _⟩ := own_size k3)
            | (go_at_call 28; refine (keys_Key 70 _ [f] _ (lit_i1 _ f) (by simp)).mono ?_; rintro e w4 ⟨r4, rfl, k4, x4⟩))
          have xx := ((((x1.then x2).then x3).then ((Ext.refl [] w3).alloc (.cells #[.int .i64 f] 3))).then x4).then (cv_ext name w4)
          have hv := h.then xx
          refine (view_PutA hv _ _ (key 70 [f]) name (StayV.of (k4.bs.then (cv_ext name w4)) hv) (cv_bs name w4 (by omega))).mono ?_
          rintro e w5 ⟨rfl, h5, x5⟩
          go_wp2_with fail
          go_ret
          rw [HE.out]
          exact ⟨rfl, h5, xx.of_old.same x5⟩
end Go.Proofs.YtbbfgbkbdhghbaaGreatDoor
