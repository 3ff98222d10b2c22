/-
  What the walks share.
-/
import Derived.Test.YtbbfgbkbdhghbaaGreatDoorProg
import Derived.Test.YtbbfgbkbdhghbaaGreatDoorBase
import Derived.Test.YtbbfgbkbdhghbaaGreatDoorMaps
import Derived.Test.YtbbfgbkbdhghbaaGreatDoorSlices
import Derived.Test.YtbbfgbkbdhghbaaGreatDoorTbl
import Derived.WalkLawsBesides
import Derived.WalkSpells
import Derived.RegionTactic
import Derived.BigRegion
import Derived.Deep.RegionHeld3
import Derived.StillTailTactics
import Derived.Deep.RegionWith
import Derived.Deep.RegionLaw
import Derived.Deep.QuietTactic
import Derived.BigQuiet
set_option linter.unusedVariables false
set_option linter.unusedSimpArgs false
namespace Go.Proofs.YtbbfgbkbdhghbaaGreatDoor
open Go.RowKit

theorem ret_bool {a b : Bool} (h : a = b) : Ending.returned (.bool a) = .returned (.bool b) := by rw [h]
theorem ret_int {k : IntKind} {a b : Int} (h : a = b) : Ending.returned (.int k a) = .returned (.int k b) := by rw [h]

/-! the rows of some types, which literals and slices are of -/
theorem row_u8 : TRow Tryz.prog 5 (.int .u8 0) 1 1 := ⟨by kernel_rfl, rfl⟩
theorem row_int : TRow Tryz.prog 3 (.int .i64 0) 1 8 := ⟨by kernel_rfl, rfl⟩

/-- a new slice of bytes, or ints: written by this call alone, and by nobody else yet -/
def NewB (w w' : World) (r : Value) (l : Bytes) : Prop := w'.ownsRow w.heap.size 5 1 r l.length (l.map bv)
def iv (n : Int) : Value := .int .i64 n
def NewI (w w' : World) (r : Value) (l : List Int) : Prop := w'.ownsRow w.heap.size 3 1 r l.length (l.map iv)
def Is (w : World) (v : Value) (l : List Int) : Prop := Sl w 3 v l.length (l.map iv)
theorem NewB.bs {w w' : World} {r : Value} {l : Bytes} (h : NewB w w' r l) : Bs 5 w' r l := Sl.of_own h (by decide)
theorem NewI.is {w w' : World} {r : Value} {l : List Int} (h : NewI w w' r l) : Is w' r l := Sl.of_own h (by decide)
theorem Is.sl {w : World} {v : Value} {l : List Int} (h : Is w v l) : Sl w 3 v l.length (l.map iv) := h
theorem Is.then {w w' : World} {v : Value} {l : List Int} (h : Is w v l) (e : Ext [] w w') : Is w' v l := Sl.then h e
theorem NewI.own {w w' : World} {r : Value} {l : List Int} (h : NewI w w' r l) : w'.ownsRow w.heap.size 3 1 r l.length (l.map iv) := h
theorem NewB.own {w w' : World} {r : Value} {l : Bytes} (h : NewB w w' r l) : w'.ownsRow w.heap.size 5 1 r l.length (l.map bv) := h
theorem NewB.then {w w1 w2 : World} {r : Value} {l : Bytes} (h : NewB w w1 r l) (e : Ext [] w1 w2) : NewB w w2 r l := own_then h e
theorem NewI.then {w w1 w2 : World} {r : Value} {l : List Int} (h : NewI w w1 r l) (e : Ext [] w1 w2) : NewI w w2 r l := own_then h e
theorem NewB.later {w w1 w2 : World} {r : Value} {l : Bytes} (h : NewB w1 w2 r l) (hs : w.heap.size ≤ w1.heap.size) : NewB w w2 r l := own_rebase (base := w1.heap.size) h (fun b hb => Nat.le_trans hs (own_fresh h b hb))
theorem NewI.later {w w1 w2 : World} {r : Value} {l : List Int} (h : NewI w1 w2 r l) (hs : w.heap.size ≤ w1.heap.size) : NewI w w2 r l := own_rebase (base := w1.heap.size) h (fun b hb => Nat.le_trans hs (own_fresh h b hb))
theorem iv_one (l : List Int) : ∀ u ∈ l.map iv, u.oneCell' = true := by
  intro u hu
  obtain ⟨b, _, rfl⟩ := List.mem_map.1 hu
  rfl

theorem NewB.snoc {w w' : World} {v : Value} {l : Bytes} {c : UInt8} (h : w'.ownsRow w.heap.size 5 1 v (l.length + 1) (l.map bv ++ [.int .u8 (c.toNat : Int)])) : NewB w w' v (l ++ [c]) := by
  unfold NewB
  rw [List.length_append, List.map_append]
  exact h
theorem NewI.snoc {w w' : World} {v : Value} {l : List Int} {c : Int} (h : w'.ownsRow w.heap.size 3 1 v (l.length + 1) (l.map iv ++ [.int .i64 c])) : NewI w w' v (l ++ [c]) := by
  unfold NewI
  rw [List.length_append, List.map_append]
  exact h
/-- an int -/
def I64 (n : Int) : Prop := -9223372036854775808 ≤ n ∧ n ≤ 9223372036854775807
end Go.Proofs.YtbbfgbkbdhghbaaGreatDoor
