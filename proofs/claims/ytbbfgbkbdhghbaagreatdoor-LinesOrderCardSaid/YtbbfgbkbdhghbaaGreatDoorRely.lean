/-
  A region that draws its order, by an invariant over what has been done: plain laws, no program.
-/
import Derived.Test.YtbbfgbkbdhghbaaGreatDoorBase
set_option linter.unusedVariables false
set_option linter.unusedSimpArgs false
namespace Go.Proofs.YtbbfgbkbdhghbaaGreatDoor
open Go.RowKit

section
variable {P : Program} {ops : Array Oper} {Q : Exit → Act → World → Prop}

/-- one operation, and what is to hold behind it -/
def QK (K : Act → World → Prop) (Q : Exit → Act → World → Prop) : Exit → Act → World → Prop
  | .normal, a, w => K a w
  | e, a, w => Q e a w

theorem upon_QK (o : Oper) (a : Act) (K : Act → World → Prop) (r : Result Next) (h : o.upon P a K (QK K Q) r) : o.upon P a K Q r := by
  cases r with
  | ok n w =>
    cases n with
    | enter f args =>
      simp only [Oper.upon] at h ⊢
      exact Calls.mono h (fun e w'' he => by cases e <;> exact he)
    | _ => exact h
  | halt x w => cases x <;> exact h

theorem wpOp_of_list {i : Nat} {o : Oper} (ho : ops[i]? = some o) {K : Act → World → Prop} {a : Act} {w : World} (h : wpList P ops (QK K Q) [o] a w) : wpOp P ops Q i K a w := by
  unfold wpOp
  simp only [ho]
  unfold wpList at h
  split at h
  · rename_i hw
    rw [if_pos hw]
    rcases h with h | ⟨h1, h2⟩
    · exact .inl (upon_QK o a K _ h)
    · exact .inr ⟨h1, h2⟩
  · rename_i hw
    rw [if_neg hw]
    exact h

def undone (l : Array Bool) : Nat := l.toList.countP (· == false)

theorem ready_iff {listed : Array Bool} {i : Nat} : i ∈ Region.ready .any ops listed ↔ ∃ o, ops[i]? = some o ∧ listed.getD i true = false ∧ ∀ e ∈ o.after, Region.binds .any e = true → listed.getD e.on false = true := by
  unfold Region.ready
  simp only [List.mem_filter, List.mem_range, Bool.and_eq_true, Bool.not_eq_true']
  constructor
  · rintro ⟨h1, h2, h3⟩
    have ho : ops[i]? = some ops[i] := by simp [h1]
    rw [ho] at h3
    simp only [Option.map_some, Option.getD_some, Array.all_eq_true] at h3
    refine ⟨ops[i], ho, h2, fun e he hb => ?_⟩
    obtain ⟨j, hj, rfl⟩ := Array.mem_iff_getElem.1 he
    have := h3 j hj
    simpa [hb] using this
  · rintro ⟨o, ho, h2, h3⟩
    have h1 : i < ops.size := (Array.getElem?_eq_some_iff.1 ho).1
    refine ⟨h1, h2, ?_⟩
    rw [ho]
    simp only [Option.map_some, Option.getD_some, Array.all_eq_true]
    intro j hj
    cases hb : Region.binds .any o.after[j] with
    | false => simp
    | true => simpa using h3 _ (Array.getElem_mem hj) hb

theorem undone_set {l : Array Bool} {i : Nat} (hi : i < l.size) (h : l[i] = false) : undone (l.setIfInBounds i true) + 1 = undone l := by
  unfold undone
  rw [Array.toList_setIfInBounds]
  have hl : i < l.toList.length := by simpa using hi
  have he : l.toList[i] = false := by simpa using h
  have h1 := List.take_append_drop i l.toList
  rw [List.drop_eq_getElem_cons hl, he] at h1
  have h2 : l.toList.set i true = l.toList.take i ++ true :: l.toList.drop (i + 1) := List.set_eq_take_append_cons_drop .. |>.trans (by rw [if_pos hl])
  rw [h2]
  conv => rhs; rw [← h1]
  simp [List.countP_append, List.countP_cons]
  omega

theorem listed_set {l : Array Bool} {i j : Nat} (hi : i < l.size) : (l.setIfInBounds i true).getD j false = if i = j then true else l.getD j false := by
  by_cases e : i = j
  · subst e; simp [Array.getD, hi]
  · simp only [e, if_false, Array.getD, Array.size_setIfInBounds]
    split
    · rename_i h
      rw [Array.getInternal_eq_getElem, Array.getInternal_eq_getElem, Array.getElem_setIfInBounds h]
      simp [e]
    · rfl

theorem wpAny_rely (I : Array Bool → Act → World → Prop) (hback : ∀ (i : Nat) (o : Oper), ops[i]? = some o → ∀ e ∈ o.after, e.on < i)
    (hend : ∀ listed a w, listed.size = ops.size → (∀ i, i < ops.size → listed.getD i false = true) → I listed a w → Q .normal a w)
    (hstep : ∀ listed a w i o, listed.size = ops.size → (∀ (j : Nat) (x : Oper), ops[j]? = some x → listed.getD j false = true → ∀ e ∈ x.after, Region.binds .any e = true → listed.getD e.on false = true) → I listed a w → ops[i]? = some o → listed.getD i false = false → (∀ e ∈ o.after, Region.binds .any e = true → listed.getD e.on false = true) →
      wpList P ops (QK (I (listed.setIfInBounds i true)) Q) [o] a w) :
    ∀ fuel listed a w, listed.size = ops.size → (∀ (j : Nat) (x : Oper), ops[j]? = some x → listed.getD j false = true → ∀ e ∈ x.after, Region.binds .any e = true → listed.getD e.on false = true) → undone listed ≤ fuel → I listed a w → wpAny P .any ops Q fuel listed a w := by
  have hall : ∀ listed : Array Bool, listed.size = ops.size → Region.ready .any ops listed = [] → ∀ i, i < ops.size → listed.getD i false = true := by
    intro listed hs hr i
    induction i using Nat.strongRecOn with
    | ind i ih =>
      intro hi
      cases hl : listed.getD i false with
      | true => rfl
      | false =>
        have ho : ops[i]? = some ops[i] := by simp [hi]
        have : i ∈ Region.ready .any ops listed := ready_iff.2 ⟨_, ho, by
          have hi' : i < listed.size := by omega
          simp only [Array.getD, hi', dif_pos] at hl ⊢
          exact hl, fun e he _ => by
          have := hback i _ ho e he
          exact ih e.on this (by omega)⟩
        rw [hr] at this
        simp at this
  intro fuel
  induction fuel with
  | zero =>
    intro listed a w hs hcl hf hI
    have hr : Region.ready .any ops listed = [] := by
      cases h : Region.ready .any ops listed with
      | nil => rfl
      | cons i r =>
        have hm : i ∈ Region.ready .any ops listed := by rw [h]; exact .head _
        obtain ⟨o, ho, h1, _⟩ := ready_iff.1 hm
        have hi : i < listed.size := by rw [hs]; exact (Array.getElem?_eq_some_iff.1 ho).1
        have h2 : listed[i] = false := by simpa [Array.getD, hi] using h1
        have := undone_set hi h2
        omega
    exact ⟨hr, hend _ _ _ hs (hall _ hs hr) hI⟩
  | succ fuel ih =>
    intro listed a w hs hcl hf hI
    refine ⟨fun hr => hend _ _ _ hs (hall _ hs hr) hI, fun i hi => ?_⟩
    obtain ⟨o, ho, h1, h2⟩ := ready_iff.1 hi
    have hset : ∀ (i : Nat) (o : Oper), ops[i]? = some o → (∀ e ∈ o.after, Region.binds .any e = true → listed.getD e.on false = true) → i < listed.size →
        (∀ (j : Nat) (x : Oper), ops[j]? = some x → listed.getD j false = true → ∀ e ∈ x.after, Region.binds .any e = true → listed.getD e.on false = true) →
        ∀ (j : Nat) (x : Oper), ops[j]? = some x → (listed.setIfInBounds i true).getD j false = true → ∀ e ∈ x.after, Region.binds .any e = true → (listed.setIfInBounds i true).getD e.on false = true := by
      intro i o ho h2 hil hcl j x hx hj e he hb
      have up : ∀ m, listed.getD m false = true → (listed.setIfInBounds i true).getD m false = true := by
        intro m hm
        rw [listed_set hil]
        split
        · rfl
        · exact hm
      rw [listed_set hil] at hj
      split at hj
      · rename_i e1
        subst e1
        rw [ho] at hx
        injection hx with hx
        subst hx
        exact up _ (h2 e he hb)
      · exact up _ (hcl j x hx hj e he hb)
    have hil : i < listed.size := by rw [hs]; exact (Array.getElem?_eq_some_iff.1 ho).1
    have h3 : listed[i] = false := by simpa [Array.getD, hil] using h1
    refine wpOp_mono (fun a w hI' => ih _ a w (by simpa using hs) (hset i o ho h2 hil hcl) (by have := undone_set hil h3; omega) hI') (wpOp_of_list ho (hstep listed a w i o hs hcl hI ho (by simpa [Array.getD, hil] using h3) h2))

theorem region_rely {id : Nat} {a : Act} {w : World} (hm : P.follows .mixedOrders = true) (I : Array Bool → Act → World → Prop) (hback : ∀ (i : Nat) (o : Oper), ops[i]? = some o → ∀ e ∈ o.after, e.on < i)
    (hstart : I (Array.replicate ops.size false) a w.drew)
    (hend : ∀ listed a w, listed.size = ops.size → (∀ i, i < ops.size → listed.getD i false = true) → I listed a w → Q .normal a w)
    (hstep : ∀ listed a w i o, listed.size = ops.size → (∀ (j : Nat) (x : Oper), ops[j]? = some x → listed.getD j false = true → ∀ e ∈ x.after, Region.binds .any e = true → listed.getD e.on false = true) → I listed a w → ops[i]? = some o → listed.getD i false = false → (∀ e ∈ o.after, Region.binds .any e = true → listed.getD e.on false = true) →
      wpList P ops (QK (I (listed.setIfInBounds i true)) Q) [o] a w) : (Code.region id ops true).wp P Q a w :=
  wp_region_any hm (wpAny_rely I hback hend hstep ops.size _ a w.drew (by simp) (fun j x _ hj => by
    exfalso
    simp only [Array.getD, Array.size_replicate] at hj
    split at hj
    · simp [Array.getInternal_eq_getElem] at hj
    · cases hj) (by simp [undone, List.countP_replicate]) hstart)

theorem put_size (a : Act) (d : Option Tmp) (v : Value) : (a.put d v).tmps.size = a.tmps.size := by cases d <;> simp [Act.put]
theorem eval_ne {a : Act} {d j : Nat} {v : Value} (h : d ≠ j) : (a.put (some d) v).eval (.tmp j) = a.eval (.tmp j) := Act.eval_put (fun d' hd e => by cases hd; cases e; exact h rfl)
theorem eval_eq {a : Act} {d : Nat} {v : Value} (h : d < a.tmps.size) : (a.put (some d) v).eval (.tmp d) = v := by
  simp [Act.eval, Act.put, h]

/-- every edge leads back -/
def backB (ops : Array Oper) : Bool := (List.range ops.size).all fun i => match ops[i]? with
  | some o => o.after.all fun e => decide (e.on < i)
  | none => true
theorem back_of (h : backB ops = true) : ∀ (i : Nat) (o : Oper), ops[i]? = some o → ∀ e ∈ o.after, e.on < i := by
  intro i o ho e he
  have hi : i < ops.size := (Array.getElem?_eq_some_iff.1 ho).1
  have := List.all_eq_true.1 h i (List.mem_range.2 hi)
  rw [ho] at this
  simp only [Array.all_eq_true] at this
  obtain ⟨j, hj, rfl⟩ := Array.mem_iff_getElem.1 he
  simpa using this j hj

/-- slots that hold a value once their operation is done -/
def TabOk (tab : List (Nat × Nat × Value)) (L : Array Bool) (a : Act) : Prop := ∀ x ∈ tab, L.getD x.1 false = true → a.eval (.tmp x.2.1) = x.2.2
theorem TabOk.step {tab : List (Nat × Nat × Value)} {L : Array Bool} {a : Act} {j d : Nat} {v : Value} (h : TabOk tab L a) (hj : j < L.size) (hd : d < a.tmps.size)
    (h1 : ∀ x ∈ tab, x.1 = j → x.2 = (d, v)) (h2 : ∀ x ∈ tab, x.1 ≠ j → x.2.1 ≠ d) : TabOk tab (L.setIfInBounds j true) (a.put (some d) v) := by
  intro x hx hL
  by_cases e : x.1 = j
  · have := h1 x hx e
    rw [this]
    exact eval_eq hd
  · rw [eval_ne (fun e' => h2 x hx e e'.symm)]
    rw [listed_set hj, if_neg (fun e' => e e'.symm)] at hL
    exact h x hx hL
/-- what a slot holds from its operation on, until another has taken it -/
def Held (L : Array Bool) (a : Act) (w : World) (i c s : Nat) (R : Value → World → Prop) : Prop := L.getD i false = true → L.getD c false = false → R (a.eval (.tmp s)) w
theorem Held.step {L : Array Bool} {a : Act} {w w' : World} {i c s j d : Nat} {v : Value} {R : Value → World → Prop} (h : Held L a w i c s R) (hj : j < L.size) (hij : j ≠ i) (hd : d ≠ s) (hR : j ≠ c → ∀ u, R u w → R u w') :
    Held (L.setIfInBounds j true) (a.put (some d) v) w' i c s R := by
  intro h1 h2
  rw [listed_set hj, if_neg hij] at h1
  rw [listed_set hj] at h2
  split at h2
  · cases h2
  · rename_i hc
    rw [eval_ne hd]
    exact hR hc _ (h h1 h2)
theorem Held.new {L : Array Bool} {a : Act} {w : World} {i c s : Nat} {v : Value} {R : Value → World → Prop} (hd : s < a.tmps.size) (hR : R v w) : Held L (a.put (some s) v) w i c s R := by
  intro _ _
  rw [eval_eq hd]
  exact hR
end
end Go.Proofs.YtbbfgbkbdhghbaaGreatDoor
