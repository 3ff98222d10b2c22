/-
  Put at both views, whatever comes; what stays while one of them turns.
-/
import Derived.Test.YtbbfgbkbdhghbaaGreatDoorView3
import Derived.Test.YtbbfgbkbdhghbaaGreatDoorRef14
set_option linter.unusedVariables false
set_option linter.unusedSimpArgs false
namespace Go.Proofs.YtbbfgbkbdhghbaaGreatDoor
open Go.RowKit
variable {B : Nat}

theorem IsView.viewM {w : World} {V : VW} {n : Nat} {was now : Tbl} (h : IsView w V n was now) : ∀ b ∈ V.M, ∀ cs T fr, w.heap[b]? = some (.cells cs T fr) → T ≠ 54 ∧ T ≠ 56 ∧ T ≠ 5 ∧ T ≠ 95 := by
  intro b hb cs T fr hh
  refine ⟨?_, ?_, ?_, ?_⟩
  all_goals
    rintro rfl
    exact h.nobytes (by decide) b hb cs fr hh
theorem IsRef.vext {w w' : World} {s n n' : Nat} {V : VW} {was now was' now' : Tbl} (h : IsRef B w s n was now) (hv : IsView w V n' was' now') (e : Ext V.M w w') : IsRef B w' s n was now := h.ext e hv.viewM

theorem RExt.at {w w' : World} {k : Nat} {cs : Array Value} {T : TypeId} {fr : Nat × Nat} (x : RExt B w w') (h : w.heap[k]? = some (.cells cs T fr)) (h1 : T ≠ 54) (h2 : T ≠ 56) : w'.heap[k]? = some (.cells cs T fr) := by
  obtain ⟨M, hM, e⟩ := x
  refine (e.block k (Array.getElem?_eq_some_iff.1 h).1 (fun hm => ?_)).trans h
  obtain ⟨_, cs', fr', hh | hh⟩ := hM k hm
  · rw [h] at hh; injection hh with hh; injection hh with _ hh _; exact h1 hh
  · rw [h] at hh; injection hh with hh; injection hh with _ hh _; exact h2 hh
/-! the calls, whatever comes -/
instance (k v : Bytes) : Decidable (Fit2 k v) := by unfold Fit2; infer_instance
def putE (k v : Bytes) : Int := if Fit2 k v then 0 else 1
def putT (now : Tbl) (k v : Bytes) : Tbl := if Fit2 k v then tput now k v else now
theorem old_view {w0 w w' : World} {V : VW} (h0 : Ext [] w0 w) (hV : ∀ b ∈ V.M, w0.heap.size ≤ b) (x : Ext V.M w w') : Ext [] w0 w' := h0.trans x (fun b hb hlt => absurd hlt (Nat.not_lt.2 (hV b hb)))
theorem Ext.of_old {w w' : World} {V : VW} (x : Ext [] w w') : Ext V.M w w' := x.mono (by simp)
section
variable {U U1 U2 : TypeId} {w : World} {V : VW} {s n : Nat} {was now : Tbl}
theorem view_PutA (h : IsView w V n was now) (kv vv : Value) (k v : Bytes) (hk : StayV V U1 w kv k) (hv : Bs U2 w vv v) :
    Calls Tryz.prog 27 #[.pointer (some ⟨V.s, 0, none⟩), kv, vv] w fun e w' => e = .returned (.int .i64 (putE k v)) ∧ IsView w' V (n + 1) was (putT now k v) ∧ Ext V.M w w' := by
  by_cases hf : Fit2 k v
  · refine (view_Put h kv vv k v hk hv hf).mono ?_
    rintro e w' ⟨rfl, h1, x⟩
    exact ⟨by rw [putE, if_pos hf], by rw [putT, if_pos hf]; exact h1, x⟩
  · refine (view_Put_no h kv vv k v hk.now hv hf).mono ?_
    rintro e w' ⟨rfl, rfl⟩
    exact ⟨by rw [putE, if_neg hf], by rw [putT, if_neg hf]; exact h.mono (by omega), Ext.refl _ _⟩
theorem ref_PutA (h : IsRef B w s n was now) (hn : n ≤ 1099511627776) (kv vv : Value) (k v : Bytes) (hk : Stay B U1 w kv k) (hv : Stay B U2 w vv v) :
    Calls Tryz.prog 33 #[.pointer (some ⟨s, 0, none⟩), kv, vv] w fun e w' => e = .returned (.int .i64 (putE k v)) ∧ IsRef B w' s (n + 1) was (putT now k v) ∧ RExt B w w' := by
  by_cases hf : Fit2 k v
  · refine (ref_Put h hn kv vv k v hk hv hf).mono ?_
    rintro e w' ⟨rfl, h1, x⟩
    exact ⟨by rw [putE, if_pos hf], by rw [putT, if_pos hf]; exact h1, x⟩
  · refine (ref_Put_no _ kv vv k v hk.now hv.now hf).mono ?_
    rintro e w' ⟨rfl, rfl⟩
    exact ⟨by rw [putE, if_neg hf], by rw [putT, if_neg hf]; exact h.mono (by omega), RExt.of (Ext.refl _ _)⟩
end
end Go.Proofs.YtbbfgbkbdhghbaaGreatDoor
