/-
  Two lines are equal: as the program asks it.
-/
import Derived.Test.YtbbfgbkbdhghbaaGreatDoorLines
import Derived.Laws.StructEq
import Derived.ChangeKeysEq
set_option linter.unusedVariables false
set_option linter.unusedSimpArgs false
namespace Go.Proofs.YtbbfgbkbdhghbaaGreatDoor
open Go.RowKit

theorem neq_line (W : World) (a b c d a' b' c' d' : Int) : (binOp .neq 37 (.agg #[.int .i64 a, .int .i64 b, .int .i64 c, .int .i64 d]) (.agg #[.int .i64 a', .int .i64 b', .int .i64 c', .int .i64 d'])).run Tryz.prog W = .ok (.bool (!((a, b, c, d) == ((a', b', c', d') : Ln)))) W := by
  have hf : Tryz.prog.fieldsOf 37 = Tryz.prog.fieldsOf 37 := rfl
  have hp : Tryz.prog.stoodInHeld 37 = false := by kernel_rfl
  have hu := Tryz.underlying37
  have hi := Tryz.underlying3
  have ht : Tryz.prog.underlying 37 = some (.struct (Tryz.prog.fieldsOf 37)) := by simp only [Program.fieldsOf, hu]
  rw [run_neq_struct]
  rw [show (10000 : Nat) = 9999 + 1 from rfl, run_equalIn_struct W 9999 _ _ _ ht hp]
  simp only [Program.fieldsOf, hu]
  have hk : Tryz.prog.plainKey 3 = true := by kernel_rfl
  have q : ∀ (x y z t : Int), (part 3 #[.int .i64 x, .int .i64 y, .int .i64 z, .int .i64 t] 0).run Tryz.prog W = .ok (.int .i64 x) W ∧ (part 3 #[.int .i64 x, .int .i64 y, .int .i64 z, .int .i64 t] 1).run Tryz.prog W = .ok (.int .i64 y) W ∧
      (part 3 #[.int .i64 x, .int .i64 y, .int .i64 z, .int .i64 t] 2).run Tryz.prog W = .ok (.int .i64 z) W ∧ (part 3 #[.int .i64 x, .int .i64 y, .int .i64 z, .int .i64 t] 3).run Tryz.prog W = .ok (.int .i64 t) W :=
    fun x y z t => ⟨run_part_plain W hk rfl, run_part_plain W hk rfl, run_part_plain W hk rfl, run_part_plain W hk rfl⟩
  have e : ∀ x y : Int, (Op.equalIn 9999 3 (.int .i64 x) (.int .i64 y)).run Tryz.prog W = .ok (x == y) W := fun x y => run_equalIn_int W 9998 _ _ _ _ _ hi
  simp only [Op.eqFields, Sem.run_bind, Result.andThen_ok, (q a b c d).1, (q a b c d).2.1, (q a b c d).2.2.1, (q a b c d).2.2.2, (q a' b' c' d').1, (q a' b' c' d').2.1, (q a' b' c' d').2.2.1, (q a' b' c' d').2.2.2, e]
  have he : ((a, b, c, d) == ((a', b', c', d') : Ln)) = (a == a' && (b == b' && (c == c' && d == d'))) := rfl
  rw [he]
  by_cases h1 : a = a' <;> by_cases h2 : b = b' <;> by_cases h3 : c = c' <;> by_cases h4 : d = d' <;> simp [h1, h2, h3, h4, e, q, Result.andThen]
end Go.Proofs.YtbbfgbkbdhghbaaGreatDoor
