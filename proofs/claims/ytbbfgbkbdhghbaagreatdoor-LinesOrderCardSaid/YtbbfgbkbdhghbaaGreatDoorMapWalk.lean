/-
  Steps of a walk that ranges over a map.
-/
import Derived.Test.YtbbfgbkbdhghbaaGreatDoorBytes
import Derived.Lib.AtoiErrMem
import Derived.Laws.AppendOwn
set_option linter.unusedVariables false
set_option linter.unusedSimpArgs false
set_option linter.unusedSectionVars false
namespace Go.Proofs.YtbbfgbkbdhghbaaGreatDoor
open Go.RowKit

/-- how many entries an iterator has before it -/
def iterLeft (w : World) (r : Nat) : Nat :=
  match w.heap[r]? with
  | some (.mapIter (some m) _ seen _) => match w.heap[m]? with
    | some (.map es _) => (leftOf es seen).size
    | _ => 0
  | _ => 0

section
variable {κ : Type} [DecidableEq κ] {E : KeyEnc κ} {P : Program} {w : World} {b r : Nat} {es left : List (κ × Value)} {t kt et : TypeId}
variable {ops : Array Oper} {rest : List Oper} {a : Act} {Q : Exit → Act → World → Prop} {d : Option Tmp} {x : Tmp} {ty : TypeId} {pos : String} {after : Array Edge}

theorem Iter.left_eq (h : Iter E w r b es left) : iterLeft w r = left.length := by
  obtain ⟨a, c, seen, h1, h2, h3, h4, h5⟩ := h
  have := congrArg List.length h5
  simp only [List.length_map, Array.length_toList] at this
  simp only [iterLeft, h4, h1, this]

theorem rng (h : MapIs E w b es) (ht : P.underlying t = some (.map kt et)) (hx : a.eval (.tmp x) = .map (some b))
    (hk : ∀ w', Iter E w' w.heap.size b es es → Ext [] w w' → wpList P ops Q rest (a.put d (.pointer (some ⟨w.heap.size, 0, none⟩))) w') :
    wpList P ops Q (⟨d, .range t (.tmp x), ty, pos, after, none⟩ :: rest) a w := by
  refine wpList_plain rfl fun K hK => ?_
  obtain ⟨h1, h2⟩ := Iter.start (P := P) h ht
  unfold Oper.wp
  simp [execOp, hx, h1, Result.andThen]
  exact hK _ _ (hk _ h2 ((Ext.refl [] w).alloc _))

theorem nxt (h : Iter E w r b es left) (hx : a.eval (.tmp x) = .pointer (some ⟨r, 0, none⟩)) (hdone : left = [] → wpList P ops Q rest (a.put d (.tuple #[.bool false])) w)
    (hmore : ∀ pre k v post w', left = pre ++ (k, v) :: post → (k, v) ∈ es → (Instr.entry (.pointer (some ⟨r, 0, none⟩))).run P w' = .ok (.tuple #[E.enc k, v]) w' →
      Iter E w' r b es (pre ++ post) → Ext [r] w w' → wpList P ops Q rest (a.put d (.tuple #[.bool true, E.enc k, v])) w') :
    wpList P ops Q (⟨d, .next (.tmp x) false, ty, pos, after, none⟩ :: rest) a w := by
  refine wpList_plain rfl fun K hK => ?_
  unfold Oper.wp
  rcases h.next (P := P) ty with ⟨h1, h2⟩ | ⟨pre, k, v, post, w', h1, h2, h3, h4, h5, h6, _⟩
  · simp [execOp, hx, h2, Result.andThen]
    exact hK _ _ (hdone h1)
  · simp [execOp, hx, h3, Result.andThen]
    exact hK _ _ (hmore pre k v post w' h1 h2 h4 h5 h6)

/-- []byte(s): a new slice that nobody may append to -/
theorem cv_bytes {src dst T : TypeId} {l : Bytes} (hs : P.underlying src = some .string) (hd : P.underlying dst = some (.slice T)) (he : P.underlying T = some (.int .u8)) (hl : l.length ≤ 9223372036854775807)
    (hx : a.eval (.tmp x) = .string (str l)) (hk : ∀ v w', Bs T w' v l → (∃ c, v = .slice (some ⟨w.heap.size, 0, none⟩) l.length c) → Ext [] w w' → wpList P ops Q rest (a.put d v) w') :
    wpList P ops Q (⟨d, .convert src dst (.tmp x), ty, pos, after, none⟩ :: rest) a w := by
  refine wpList_plain rfl fun K hK => ?_
  have hr := Lib.run_convert_string_bytes (P := P) w src dst T (str l) hs hd he
  unfold Oper.wp execOp
  simp only [hx, Sem.run_bind, hr]
  have hx0 : Ext [] w (Lib.bytesWorld w T (str l)) := Ext.of_below (Lib.bytesWorld_below w T (str l))
  have hsz : (str l).size = l.length := str_size l
  have hcap := grownCap_ge w (str l).size 0 T
  have hcap2 := grownCap_le_maxLen w (str l).size 0 T (by unfold maxLen; omega)
  unfold maxLen at hcap2
  have hat := Lib.bytesWorld_at_new w T (str l)
  rw [hsz] at hcap hcap2 ⊢
  refine hK _ _ (hk _ _ ⟨_, _, rfl, hcap, by omega, ?_⟩ ⟨_, rfl⟩ hx0)
  rcases Nat.eq_zero_or_pos l.length with h0 | h0
  · left
    exact ⟨h0, by rw [List.length_eq_zero_iff.1 h0]; rfl⟩
  · right
    refine ⟨h0, _, _, rfl, _, _, hat, ?_, ?_⟩
    · simp [Lib.bytesCells, str]
    · simp [Lib.bytesCells, str, bv, List.map_map, Function.comp_def]
end
end Go.Proofs.YtbbfgbkbdhghbaaGreatDoor
