/-
  chart over a view in memory: Fund, Funds, Object, NewFund.
-/
import Derived.Test.YtbbfgbkbdhghbaaGreatDoorCode
import Derived.Test.YtbbfgbkbdhghbaaGreatDoorKeysS
import Derived.Test.YtbbfgbkbdhghbaaGreatDoorScan5
set_option linter.unusedVariables false
set_option linter.unusedSimpArgs false
namespace Go.Proofs.YtbbfgbkbdhghbaaGreatDoor
open Go.RowKit
variable {w : World} {V : VW} {n : Nat} {was now : Tbl}

def oneNum (p : Bytes × Bytes) : Option Int := match splitK p.1 with
  | some (_, [n]) => some n
  | _ => none
/-- the numbers that stand in a table -/
def allNums (now : Tbl) (tag : UInt8) : List Int := (tscan now [tag]).filterMap oneNum

theorem lit_one (w : World) (v : Value) : Sl (w.alloc (.cells #[v] 3)) 3 (.slice (some ⟨w.heap.size, 0, none⟩) 1 1) 1 [v] :=
  Sl.lit 3 1 #[v] 1 (by decide) rfl w (by decide)
theorem lit_b1 (w : World) (t : UInt8) : Bs 5 (w.alloc (.cells #[.int .u8 (t.toNat : Int)] 5)) (.slice (some ⟨w.heap.size, 0, none⟩) 1 1) [t] :=
  Sl.lit 5 1 #[.int .u8 (t.toNat : Int)] 1 (by decide) rfl w (by decide)

theorem chart_all (h : IsView w V n was now) (hn : n ≤ 1048576) (t : UInt8) :
    Calls Tryz.prog 48 #[.pointer (some ⟨V.s, 0, none⟩), .int .u8 (t.toNat : Int)] w fun e w' => ∃ r, e = .returned r ∧ NewI w w' r (allNums now t) ∧ Ext [] w w' := by
  have hlit := lit_b1 w t
  have x0 := (Ext.refl [] w).alloc (.cells #[.int .u8 (t.toNat : Int)] 5)
  go_enter Tryz.func48, Tryz.ntmps48
  iterate 60 (first | at_builtin | go_step | skip)
  go_at_call 64
  refine (view_Scan (h.then x0) (by omega) _ [t] hlit).mono ?_
  rintro e w1 ⟨r1, rfl, o1, x1⟩
  obtain ⟨hs, ho1, hrd⟩ := o1.rd
  obtain ⟨p, c, rfl, g1, g2⟩ := hrd.1.shape
  dsimp only
  have x01 := x0.then x1
  obtain ⟨L, hL⟩ : ∃ L, L = tscan now [t] := ⟨_, rfl⟩
  have hLn : L.length ≤ 1048576 := by rw [hL]; exact Nat.le_trans (List.length_filter_le _ _) (Nat.le_trans h.len hn)
  rw [← hL] at hrd ⊢
  have HL := Lib.hid hL.symm
  clear hL h hlit o1 ho1
  go_wp2_with fail
  go_loopw [5, 16] (fun o s wr => ∃ i : Nat, i ≤ L.length ∧ s = .int .i64 i ∧ NewI w1 wr o ((L.take i).filterMap oneNum) ∧ Ext [] w1 wr) (fun _ s _ => L.length - (intOf s).toNat)
  case atStart => exact ⟨0, Nat.zero_le _, rfl, own_nil _ _ _ _, Ext.refl _ _⟩
  case round =>
    obtain ⟨i, hi, rfl, ho, hx⟩ := hrel
    by_cases hlt : i < L.length
    · obtain ⟨b, off, c', hpp, _⟩ := hrd.1.at (by omega)
      injection hpp with hpp _ hc'
      subst hpp; subst hc'
      obtain ⟨kv, vv, _, f1, f2, hk, hv⟩ := (hrd.then hx).at hlt
      have ya := (Ext.refl [] wr).alloc (.cells #[kv, vv] 95)
      have hka := hk.then ya
      have ho1 := ho.then ya
      have hxa := hx.then ya
      have HF := Lib.hid (show (L.take (i + 1)).filterMap oneNum = (L.take i).filterMap oneNum ++ (oneNum L[i]).toList from filterMap_take hlt)
      have hle : ((L.take i).filterMap oneNum).length ≤ 1048576 := Nat.le_trans (List.length_filterMap_le _ _) (by simp; omega)
      have hsz := hxa.size
      obtain ⟨kp, kc, rfl, _, _⟩ := hk.shape
      obtain ⟨vp, vc, rfl, _, _⟩ := hv.shape
      clear hk hv
      cases hs : splitK L[i].1 with
      | none =>
        have hS := keys_Split_no hka hs
        have HO := Lib.hid (show oneNum L[i] = none by rw [oneNum, hs])
        clear hs
        go_wp2_with (go_at_call 65; refine hS.mono ?_; rintro e w2 ⟨rfl, rfl⟩)
        go_roundw
        case rel => exact ⟨i + 1, by omega, by go_num, by rw [HF.out, HO.out]; simpa using ho1, hxa⟩
        case measure => simp [intOf]; omega
      | some q =>
        obtain ⟨t', m⟩ := q
        have hS := keys_Split hka hs
        by_cases hm : m.length = 1
        · obtain ⟨z, rfl⟩ : ∃ z, m = [z] := by
            match m, hm with
            | [z], _ => exact ⟨z, rfl⟩
          have HO := Lib.hid (show oneNum L[i] = some z by rw [oneNum, hs])
          clear hs hm
          iterate 60 (first | at_builtin | go_step | skip)
          go_at_call 65
          refine hS.mono ?_
          rintro e w2 ⟨r2, rfl, hr2, x2⟩
          obtain ⟨b2, o2, c2, rfl, hrow2⟩ := hr2.is.sl.at (by simp)
          have hcell2 := hrow2.cell (i := 0) (v := .int .i64 z) rfl
          rw [Nat.add_zero] at hcell2
          have ho2 := ho1.then x2
          have hsz2 := x2.size
          dsimp only
          iterate 110 (first | at_builtin | go_step | skip)
          with_reducible refine app1 (k := 1) Tryz.underlying22 row_int (by decide) ho2.own ?_ ?_ ?_ ?_ ?_ ?_ ?_ ?_
          rfl
          exact iv_one [z]
          omega
          omega
          omega
          rfl
          rfl
          intro v1 w3 ho3 hx3 hat
          go_wp2_with fail
          go_roundw
          case rel =>
            refine ⟨i + 1, by omega, by go_num, ?_, (hxa.then x2).trans hx3 (fun b hb hlt' => by have := own_fresh ho2 b (by simpa using hb); omega)⟩
            rw [HF.out, HO.out]
            simpa [NewI, iv] using ho3
          case measure => simp [intOf]; omega
        · have HO := Lib.hid (show oneNum L[i] = none by
            rw [oneNum, hs]
            match m, hm with
            | [], _ => rfl
            | _ :: _ :: _, _ => rfl)
          have hm' : ((m.length : Int) == 1) = false := by rw [beq_eq_false_iff_ne]; omega
          clear hs hm
          iterate 60 (first | at_builtin | go_step | skip)
          go_at_call 65
          refine hS.mono ?_
          rintro e w2 ⟨r2, rfl, hr2, x2⟩
          obtain ⟨p2, c2, rfl, _, _⟩ := own_size hr2
          dsimp only
          go_wp2_with fail
          go_roundw
          case rel => exact ⟨i + 1, by omega, by go_num, by rw [HF.out, HO.out]; simpa using ho1.then x2, hxa.then x2⟩
          case measure => simp [intOf]; omega
    · have e : i = L.length := by omega
      subst e
      go_wp2_with fail
      go_ret
      rw [List.take_length] at ho
      exact ⟨_, rfl, by rw [allNums, HL.out]; exact NewI.later ho x01.size, x01.then hx⟩
end Go.Proofs.YtbbfgbkbdhghbaaGreatDoor
