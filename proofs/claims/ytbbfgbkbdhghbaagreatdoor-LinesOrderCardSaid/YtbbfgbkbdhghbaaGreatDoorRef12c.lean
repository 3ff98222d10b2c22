/-
  The document's table: Delete.
-/
import Derived.Test.YtbbfgbkbdhghbaaGreatDoorRef12b
set_option linter.unusedVariables false
set_option linter.unusedSimpArgs false
namespace Go.Proofs.YtbbfgbkbdhghbaaGreatDoor
open Go.RowKit

theorem tdel_lt (T : Tbl) (k : Bytes) : decide ((tdel T k).length < T.length) = (tget T k).isSome := by
  rw [Bool.eq_iff_iff, decide_eq_true_iff]
  constructor
  · intro h
    cases hg : tget T k with
    | some v => rfl
    | none =>
      have : tdel T k = T := List.filter_eq_self.2 fun p hp => by simpa using (tget_none_iff.1 hg) p hp
      rw [this] at h; omega
  · intro h
    obtain ⟨v, hv⟩ := Option.isSome_iff_exists.1 h
    exact List.length_filter_lt_length_iff_exists.2 ⟨_, tget_mem hv, by simp⟩

/-- what is stored into a table's one field -/
theorem IsTab.set {w : World} {b : Nat} {v r : Value} (hb : w.heap[b]? = some (.cells #[v] 54 (0, 0))) {hs : List (Value × Value)} {T : Tbl} (hr : RdP w r hs T) :
    IsTab (w.setCell ⟨b, 0, none⟩ r) b T ∧ Ext [b] w (w.setCell ⟨b, 0, none⟩ r) := by
  have x : Ext [b] w (w.setCell ⟨b, 0, none⟩ r) := (Ext.refl [b] w).setCell (fun _ => by simp) r
  have hne : ∀ U, 54 ≠ U → ∀ q ∈ [b], ∀ cs fr, w.heap[q]? ≠ some (.cells cs U fr) := by
    intro U hU q hq cs fr hh
    simp at hq
    subst hq
    rw [hb] at hh
    injection hh with hh
    injection hh with _ hh _
    exact hU hh
  refine ⟨⟨r, hs, ?_, hr.1.ext x (hne _ (by decide)), hr.2.imp fun _ _ q => q.ext x (hne _ (by decide))⟩, x⟩
  rw [setCell_at hb]
  rfl

end Go.Proofs.YtbbfgbkbdhghbaaGreatDoor
