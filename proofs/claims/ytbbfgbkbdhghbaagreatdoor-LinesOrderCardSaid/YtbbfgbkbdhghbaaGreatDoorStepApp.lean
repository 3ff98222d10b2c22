/-
  append to what one owns, as one step of a region that draws its order: a plain law.
-/
import Derived.Test.YtbbfgbkbdhghbaaGreatDoorSlices
import Derived.Deep.RegionLaw
set_option linter.unusedVariables false
set_option linter.unusedSimpArgs false
namespace Go.Proofs.YtbbfgbkbdhghbaaGreatDoor
open Go.RowKit
variable {P : Program} {ops : Array Oper} {o : Oper} {a : Act} {w : World} {K : Act → World → Prop} {Q : Exit → Act → World → Prop} {E : Prop}

theorem step_app (hg : o.guard = none) (s x : Operand) (t : TypeId) (hop : o.op = Op.call { callee := Callee.builtin Builtin.append, args := #[s, x], argTypes := #[t, t] })
    {base e k bytes : Nat} {z : Value} (ht : P.underlying t = some (.slice e)) (hr : TRow P e z k bytes) (hk : 0 < k)
    {v : Value} {n : Nat} {xs : List Value} (hs : a.eval s = v) (hown : w.ownsRow base e k v n xs)
    {T : TypeId} {sv : Value} {m : Nat} {ys : List Value} (hx : a.eval x = sv) (hsl : Sl w T sv m ys) (hl : ys.length = m * k) (h1 : ∀ u ∈ ys, u.oneCell' = true)
    (hn : (n + m) * bytes ≤ 140737488355328) (h63 : n + m ≤ 9223372036854775807) (hbase : base ≤ w.heap.size)
    (hK : ∀ v' w', w'.ownsRow base e k v' (n + m) (xs ++ ys) → w.grownBy w' v.ownBlock → K (a.put o.dst v') w') :
    if Region.wanted o (yielded ops a.tmps) = true then Oper.wp P o a w K Q else E := by
  have hw : Region.wanted o (yielded ops a.tmps) = true := by simp [Region.wanted, hg]
  rw [if_pos hw]
  obtain ⟨i, hi, hz, hsz, hby, hzs⟩ := hr.parts
  rcases Nat.eq_zero_or_pos m with rfl | hm
  · obtain ⟨p', c', rfl, _, _⟩ := hsl.shape
    obtain ⟨p, c, hv, hnc, _⟩ := own_size hown
    have hy : ys = [] := List.eq_nil_of_length_eq_zero (by simpa using hl)
    subst hy
    have hrun := run_append_zero (P := P) (k := k) t o.type e i ht hi p p' n c c' hnc w hsz (.inr trivial)
    rw [← hv] at hrun
    unfold Oper.wp
    simp [execOp, hop, resolve, invoke, builtin, hs, hx, hrun, Result.andThen]
    exact hK v w (by simpa using hown) ⟨rfl, rfl, rfl, Nat.le_refl _, fun _ _ _ => rfl⟩
  · obtain ⟨b, off, c, rfl, hrow⟩ := hsl.at hm
    obtain ⟨v', w', hrun, r1, r2, r3⟩ := run_append_own (P := P) w base t o.type e i z k bytes ht hi hz hsz hby hzs hk v n xs hown ⟨b, off, none⟩ m c ys hl (Sl.cells_add (n := 0) (c := 0) hrow) h1 (by unfold maxLen; omega) hn hbase
    unfold Oper.wp
    simp [execOp, hop, resolve, invoke, builtin, hs, hx, hrun, Result.andThen]
    exact hK v' w' r1 r2
end Go.Proofs.YtbbfgbkbdhghbaaGreatDoor
