/-
  slices.DeleteFunc over pairs, with the closure of view.Scan.
-/
import Derived.Test.YtbbfgbkbdhghbaaGreatDoorScan
set_option linter.unusedVariables false
set_option linter.unusedSimpArgs false
namespace Go.Proofs.YtbbfgbkbdhghbaaGreatDoor
open Go.RowKit

theorem scan_1 {w : World} {V : VW} {ch : List (Bytes × Value)} {chx : List (Bytes × Option Bytes)} {bx : Nat} {kv vv : Value} {k v : Bytes}
    (hbx : w.cell? ⟨bx, 0, none⟩ = some (.pointer (some ⟨V.s, 0, none⟩))) (c0 : w.cell? ⟨V.s, 0, none⟩ = some (.map (some V.c))) (hc : MapIs strEnc w V.c ch) (ec : Ents (ShapeV w) ch chx) (hk : Bs 5 w kv k) (hv : Bs 5 w vv v) :
    Calls Tryz.prog 85 #[.agg #[kv, vv], .pointer (some ⟨bx, 0, none⟩)] w fun e w' => e = .returned (.bool (alook ch k).isSome) ∧ Ext [] w w' := by
  obtain ⟨kp, kc, rfl, _, _⟩ := hk.shape
  obtain ⟨vp, vc, rfl, _, _⟩ := hv.shape
  have x0 := (Ext.refl [] w).alloc (.cells #[.slice kp k.length kc, .slice vp v.length vc] 95)
  have xa := x0.drew
  have hlook := (hc.ext xa (by simp)).look (P := Tryz.prog) (t := 47) Tryz.underlying47 Tryz.underlying9 (zero_shape _) k
  have hstr := run_str (P := Tryz.prog) Tryz.underlying63 Tryz.underlying5 Tryz.underlying9 (hk.then xa)
  change (Instr.lookup _ _ (.string (str k)) true).run _ _ = _ at hlook
  have d0 := xa.cell (by simp) hbx
  have d1 := xa.cell (by simp) c0
  obtain ⟨z1, z2, hz⟩ : ∃ p n c b, (alook ch k).getD (.agg #[.slice none 0 0, .bool false]) = .agg #[.slice p n c, .bool b] := by
    rcases ec.look k with ⟨e1, _⟩ | ⟨v, x, e1, _, hb⟩
    · exact ⟨_, _, _, _, by rw [e1]; rfl⟩
    · cases x with
      | none => simp only [ShapeV] at hb; subst hb; exact ⟨_, _, _, _, by rw [e1]; rfl⟩
      | some x => obtain ⟨v, rfl, hb2⟩ := hb; obtain ⟨p, c, rfl, _, _⟩ := hb2.shape; exact ⟨_, _, _, _, by rw [e1]; rfl⟩
  obtain ⟨z3, z4, hz⟩ := hz
  rw [hz] at hlook
  have xb := (x0.alloc (.cells #[.slice none 0 0, .bool false] 82)).drew
  have hlook2 := (hc.ext xb (by simp)).look (P := Tryz.prog) (t := 47) Tryz.underlying47 Tryz.underlying9 (zero_shape _) k
  have hstr2 := run_str (P := Tryz.prog) Tryz.underlying63 Tryz.underlying5 Tryz.underlying9 (hk.then xb)
  change (Instr.lookup _ _ (.string (str k)) true).run _ _ = _ at hlook2
  rw [hz] at hlook2
  have d2 := xb.cell (by simp) hbx
  have d3 := xb.cell (by simp) c0
  clear hz hk hv hc ec hbx c0
  go_enter Tryz.func85, Tryz.ntmps85
  iterate 40 (first | at_builtin | go_step | skip)
  go_region
  all_goals go_wp2_with fail
  all_goals go_ret
  all_goals exact ⟨rfl, x0.drew.alloc _⟩

/-- pairs that are read: their headers one behind the other, and what lies behind each -/
def RdP (w : World) (v : Value) (hs : List (Value × Value)) (l : Tbl) : Prop := Sl w 95 v l.length (cells2 hs) ∧ Rel2 (PairH w) hs l
theorem RdP.then {w w' : World} {v : Value} {hs : List (Value × Value)} {l : Tbl} (h : RdP w v hs l) (e : Ext [] w w') : RdP w' v hs l := ⟨h.1.then e, h.2.imp fun _ _ q => q.ext e (by simp)⟩
/-- the header at i -/
theorem RdP.at {w : World} {b off c n : Nat} {hs : List (Value × Value)} {l : Tbl} (h : RdP w (.slice (some ⟨b, off, none⟩) n c) hs l) {i : Nat} (hi : i < l.length) :
    ∃ kv vv, hs[i]? = some (kv, vv) ∧ w.cell? ⟨b, off + i * 2, none⟩ = some kv ∧ w.cell? ⟨b, off + i * 2 + 1, none⟩ = some vv ∧ Bs 5 w kv l[i].1 ∧ Bs 5 w vv l[i].2 := by
  obtain ⟨hsl, hrel⟩ := h
  obtain ⟨⟨kv, vv⟩, he, h1, h2⟩ := hrel.get i l[i] (by simp [hi])
  obtain ⟨g1, g2⟩ := cells2_get hs i _ he
  obtain ⟨b', off', c', hp, hrow⟩ := hsl.at (by omega)
  injection hp with hp _ _
  injection hp with hp
  injection hp with q1 q2
  subst q1; subst q2
  rw [Nat.mul_comm] at g1 g2
  exact ⟨kv, vv, he, hrow.cell g1, hrow.cell g2, h1, h2⟩

/-- the first place, if there is one, whose key was changed -/
def ixOf (f : Bytes → Bool) : Tbl → Nat → Int
  | [], _ => -1
  | p :: l, i => if f p.1 then (i : Int) else ixOf f l (i + 1)

theorem pairs_IndexFunc {w : World} {V : VW} {ch : List (Bytes × Value)} {chx : List (Bytes × Option Bytes)} {bx : Nat} {v : Value} {hs : List (Value × Value)} {l : Tbl}
    (hbx : w.cell? ⟨bx, 0, none⟩ = some (.pointer (some ⟨V.s, 0, none⟩))) (c0 : w.cell? ⟨V.s, 0, none⟩ = some (.map (some V.c))) (hc : MapIs strEnc w V.c ch) (ec : Ents (ShapeV w) ch chx) (hv : RdP w v hs l) :
    Calls Tryz.prog 103 #[v, .func (.func 85) #[] #[.pointer (some ⟨bx, 0, none⟩)]] w fun e w' => ∃ i : Int, e = .returned (.int .i64 i) ∧ Ext [] w w' ∧
      ((i = -1 ∧ ∀ p ∈ l, (alook ch p.1).isSome = false) ∨ ∃ n : Nat, i = n ∧ ∃ hn : n < l.length, (alook ch l[n].1).isSome = true ∧ ∀ j (hj : j < n), (alook ch (l[j]'(Nat.lt_trans hj hn)).1).isSome = false) := by
  obtain ⟨p, c, rfl, hc1, hc2⟩ := hv.1.shape
  go_enter Tryz.func103, Tryz.ntmps103
  go_wp2_with fail
  go_loopw [8] (fun s wr => ∃ i : Nat, i ≤ l.length ∧ s = .int .i64 i ∧ (∀ j (hj : j < i) (hl : j < l.length), (alook ch l[j].1).isSome = false) ∧ Ext [] w wr) (fun s _ => l.length - (intOf s).toNat)
  case atStart => exact ⟨0, Nat.zero_le _, rfl, by simp, Ext.refl _ _⟩
  case round =>
    obtain ⟨i, hi, rfl, hall, hx⟩ := hrel
    by_cases hlt : i < l.length
    · have hv2 := hv.then hx
      obtain ⟨b, off, c', hpp, _⟩ := hv.1.at (by omega)
      injection hpp with hpp _ hc'
      subst hpp; subst hc'
      obtain ⟨kv, vv, _, g1, g2, hk, hvv⟩ := hv2.at hlt
      obtain ⟨kp, kc, rfl, _, _⟩ := hk.shape
      obtain ⟨vp, vc, rfl, _, _⟩ := hvv.shape
      have hS := scan_1 (hx.cell (by simp) hbx) (hx.cell (by simp) c0) (hc.ext hx (by simp)) (ec.imp fun _ _ q => q.ext hx (by simp)) hk hvv
      have HA := Lib.hid hall
      clear hall hv2 hk hvv
      cases hq : (alook ch l[i].1).isSome with
      | true =>
        rw [hq] at hS
        have HQ := Lib.hid hq
        clear hq
        iterate 60 (first | at_builtin | go_step | skip)
        go_at_call 85
        refine hS.mono ?_
        rintro e w2 ⟨rfl, x2⟩
        go_wp2_with fail
        go_ret
        exact ⟨_, rfl, hx.then x2, .inr ⟨i, rfl, hlt, HQ.out, fun j hj => HA.out j hj _⟩⟩
      | false =>
        rw [hq] at hS
        have HQ := Lib.hid hq
        clear hq
        iterate 60 (first | at_builtin | go_step | skip)
        go_at_call 85
        refine hS.mono ?_
        rintro e w2 ⟨rfl, x2⟩
        go_wp2_with fail
        go_roundw
        case rel =>
          refine ⟨i + 1, by omega, by go_num, fun j hj hl => ?_, hx.then x2⟩
          rcases Nat.lt_succ_iff_lt_or_eq.1 hj with hj | rfl
          · exact HA.out j hj hl
          · exact HQ.out
        case measure => simp [intOf]; omega
    · have e : i = l.length := by omega
      subst e
      have HA := Lib.hid hall
      clear hall
      go_wp2_with fail
      go_ret
      refine ⟨_, rfl, hx, .inl ⟨rfl, fun p hp => ?_⟩⟩
      obtain ⟨j, hj, rfl⟩ := List.mem_iff_getElem.1 hp
      exact HA.out j hj hj
end Go.Proofs.YtbbfgbkbdhghbaaGreatDoor
