/-
  Slices of headers, and what lies behind each: plain laws.
-/
import Derived.Test.YtbbfgbkbdhghbaaGreatDoorMapWalk
import Derived.Test.YtbbfgbkbdhghbaaGreatDoorView3
set_option linter.unusedVariables false
set_option linter.unusedSimpArgs false
set_option linter.unusedSectionVars false
namespace Go.Proofs.YtbbfgbkbdhghbaaGreatDoor
open Go.RowKit

/-! ### lists of headers, and what lies behind each -/
def Rel2 {α β : Type} (R : α → β → Prop) : List α → List β → Prop
  | [], [] => True
  | p :: es, q :: xs => R p q ∧ Rel2 R es xs
  | _, _ => False
section
variable {α β : Type} {R S : α → β → Prop}
theorem Rel2.nil (R : α → β → Prop) : Rel2 R [] [] := trivial
theorem Rel2.cons {p : α} {q : β} {es : List α} {xs : List β} (h1 : R p q) (h : Rel2 R es xs) : Rel2 R (p :: es) (q :: xs) := ⟨h1, h⟩
theorem Rel2.ind {P : List α → List β → Prop} (h0 : P [] []) (h1 : ∀ p q es xs, R p q → Rel2 R es xs → P es xs → P (p :: es) (q :: xs)) : ∀ {es : List α} {xs : List β}, Rel2 R es xs → P es xs
  | [], [], _ => h0
  | _ :: _, _ :: _, h => h1 _ _ _ _ h.1 h.2 (Rel2.ind h0 h1 h.2)
  | [], _ :: _, h => h.elim
  | _ :: _, [], h => h.elim
theorem Rel2.length {es : List α} {xs : List β} (h : Rel2 R es xs) : es.length = xs.length := Rel2.ind (R := R) (P := fun es xs => es.length = xs.length) rfl (fun _ _ _ _ _ _ ih => by simp [ih]) h
theorem Rel2.imp {es : List α} {xs : List β} (h : Rel2 R es xs) (hi : ∀ v x, R v x → S v x) : Rel2 S es xs := Rel2.ind (P := fun es xs => Rel2 S es xs) trivial (fun _ _ _ _ h1 _ ih => ⟨hi _ _ h1, ih⟩) h
theorem Rel2.append {es es' : List α} {xs xs' : List β} (h : Rel2 R es xs) (h' : Rel2 R es' xs') : Rel2 R (es ++ es') (xs ++ xs') := Rel2.ind (P := fun es xs => Rel2 R (es ++ es') (xs ++ xs')) h' (fun _ _ _ _ h1 _ ih => Rel2.cons h1 ih) h
theorem Rel2.one {p : α} {q : β} (h : R p q) : Rel2 R [p] [q] := ⟨h, trivial⟩
theorem Rel2.get {es : List α} {xs : List β} (h : Rel2 R es xs) : ∀ (i : Nat) (x : β), xs[i]? = some x → ∃ e, es[i]? = some e ∧ R e x := by
  refine Rel2.ind (P := fun es xs => ∀ (i : Nat) (x : β), xs[i]? = some x → ∃ e, es[i]? = some e ∧ R e x) (fun i x hx => by simp at hx) ?_ h
  intro p q es xs h1 _ ih i x hx
  cases i with
  | zero => simp at hx; subst hx; exact ⟨p, rfl, h1⟩
  | succ i => simpa using ih i x (by simpa using hx)
end

/-- a key's and a value's header, and the bytes there -/
def PairH (w : World) (h : Value × Value) (p : Bytes × Bytes) : Prop := Bs 5 w h.1 p.1 ∧ Bs 5 w h.2 p.2
def cells2 (hs : List (Value × Value)) : List Value := hs.flatMap fun h => [h.1, h.2]
theorem cells2_length (hs : List (Value × Value)) : (cells2 hs).length = hs.length * 2 := by
  induction hs with
  | nil => rfl
  | cons h hs ih => simp [cells2] at ih ⊢; omega
theorem cells2_append (a b : List (Value × Value)) : cells2 (a ++ b) = cells2 a ++ cells2 b := by simp [cells2]
theorem cells2_get (hs : List (Value × Value)) : ∀ (i : Nat) (h : Value × Value), hs[i]? = some h → (cells2 hs)[2 * i]? = some h.1 ∧ (cells2 hs)[2 * i + 1]? = some h.2 := by
  induction hs with
  | nil => intro i h hh; simp at hh
  | cons a hs ih =>
    intro i h hh
    cases i with
    | zero => simp at hh; subst hh; simp [cells2]
    | succ i =>
      have := ih i h (by simpa using hh)
      have e : 2 * (i + 1) = 2 * i + 2 := by omega
      simp only [cells2, List.flatMap_cons, e, List.cons_append, List.nil_append] at this ⊢
      exact this
theorem row_pair : TRow Tryz.prog 95 (.agg #[.slice none 0 0, .slice none 0 0]) 2 48 := ⟨by kernel_rfl, rfl⟩
theorem row_bytes : TRow Tryz.prog 63 (.slice none 0 0) 1 24 := ⟨by kernel_rfl, rfl⟩
theorem row_string : TRow Tryz.prog 9 (.string (str [])) 1 16 := ⟨by kernel_rfl, rfl⟩

/-- a new slice of pairs -/
def OwnP (base : Nat) (w : World) (r : Value) (l : Tbl) : Prop := ∃ hs, w.ownsRow base 95 2 r l.length (cells2 hs) ∧ Rel2 (PairH w) hs l
/-- a new slice of slices of bytes -/
def OwnD (base : Nat) (w : World) (r : Value) (l : List Bytes) : Prop := ∃ hs, w.ownsRow base 63 1 r l.length hs ∧ Rel2 (fun h b => Bs 5 w h b) hs l
def stv (s : Bytes) : Value := .string (str s)
def OwnS (base : Nat) (w : World) (r : Value) (l : List Bytes) : Prop := w.ownsRow base 9 1 r l.length (l.map stv)

theorem PairH.ext {w w' : World} {M : List Nat} {h : Value × Value} {p : Bytes × Bytes} (hp : PairH w h p) (e : Ext M w w') (hm : ∀ b ∈ M, ∀ cs fr, w.heap[b]? ≠ some (.cells cs 5 fr)) : PairH w' h p :=
  ⟨hp.1.sl.ext e hm, hp.2.sl.ext e hm⟩
/-- rows of another type hold no bytes -/
theorem own_other {w : World} {base T U k n : Nat} {v : Value} {xs : List Value} (h : w.ownsRow base T k v n xs) (hU : T ≠ U) : ∀ b ∈ v.ownBlock.toList, ∀ cs fr, w.heap[b]? ≠ some (.cells cs U fr) := by
  intro b hb cs fr hh
  obtain ⟨_, ⟨rfl, _⟩ | ⟨g, cap, cur, rfl, _, hg', _⟩⟩ := h
  · simp [Value.ownBlock] at hb
  · simp [Value.ownBlock] at hb
    subst hb
    rw [hg'] at hh
    injection hh with hh
    injection hh with _ hh _
    exact hU hh
theorem OwnP.nil (base : Nat) (w : World) : OwnP base w (.slice none 0 0) [] := ⟨[], own_nil _ _ _ _, trivial⟩
theorem OwnD.nil (base : Nat) (w : World) : OwnD base w (.slice none 0 0) [] := ⟨[], own_nil _ _ _ _, trivial⟩
theorem OwnP.ext {base : Nat} {w w' : World} {r : Value} {l : Tbl} {M : List Nat} (h : OwnP base w r l) (e : Ext M w w') (h1 : ∀ b, r.ownBlock = some b → b ∉ M) (hm : ∀ b ∈ M, ∀ cs fr, w.heap[b]? ≠ some (.cells cs 5 fr)) : OwnP base w' r l := by
  obtain ⟨hs, h2, h3⟩ := h
  exact ⟨hs, own_ext h2 e h1, h3.imp fun _ _ h => h.ext e hm⟩
theorem OwnD.ext {base : Nat} {w w' : World} {r : Value} {l : List Bytes} {M : List Nat} (h : OwnD base w r l) (e : Ext M w w') (h1 : ∀ b, r.ownBlock = some b → b ∉ M) (hm : ∀ b ∈ M, ∀ cs fr, w.heap[b]? ≠ some (.cells cs 5 fr)) : OwnD base w' r l := by
  obtain ⟨hs, h2, h3⟩ := h
  exact ⟨hs, own_ext h2 e h1, h3.imp fun _ _ h => h.sl.ext e hm⟩
theorem OwnP.then {base : Nat} {w w' : World} {r : Value} {l : Tbl} (h : OwnP base w r l) (e : Ext [] w w') : OwnP base w' r l := h.ext e (by simp) (by simp)
theorem OwnD.then {base : Nat} {w w' : World} {r : Value} {l : List Bytes} (h : OwnD base w r l) (e : Ext [] w w') : OwnD base w' r l := h.ext e (by simp) (by simp)
theorem OwnS.then {base : Nat} {w w' : World} {r : Value} {l : List Bytes} (h : OwnS base w r l) (e : Ext [] w w') : OwnS base w' r l := own_then h e

/-- behind an append of one pair -/
theorem OwnP.push {base : Nat} {w w' : World} {v v' : Value} {l : Tbl} {hs : List (Value × Value)} {h : Value × Value} {p : Bytes × Bytes} (ho : w.ownsRow base 95 2 v l.length (cells2 hs)) (hr : Rel2 (PairH w) hs l) (hp : PairH w h p)
    (ho' : w'.ownsRow base 95 2 v' (l.length + 1) (cells2 hs ++ [h.1, h.2])) (e : Ext v.ownBlock.toList w w') : OwnP base w' v' (l ++ [p]) := by
  refine ⟨hs ++ [h], ?_, (hr.append (Rel2.one hp)).imp fun _ _ hh => hh.ext e (own_other ho (by decide))⟩
  rw [cells2_append, List.length_append]
  exact ho'
theorem OwnD.push {base : Nat} {w w' : World} {v v' : Value} {l : List Bytes} {hs : List Value} {h : Value} {p : Bytes} (ho : w.ownsRow base 63 1 v l.length hs) (hr : Rel2 (fun h b => Bs 5 w h b) hs l) (hp : Bs 5 w h p)
    (ho' : w'.ownsRow base 63 1 v' (l.length + 1) (hs ++ [h])) (e : Ext v.ownBlock.toList w w') : OwnD base w' v' (l ++ [p]) := by
  refine ⟨hs ++ [h], ?_, (hr.append (Rel2.one hp)).imp fun _ _ hh => hh.sl.ext e (own_other ho (by decide))⟩
  rw [List.length_append]
  exact ho'
end Go.Proofs.YtbbfgbkbdhghbaaGreatDoor
