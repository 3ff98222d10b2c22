/-
  Maps as lists of entries, and ranges over them: plain laws.
-/
import Derived.Test.YtbbfgbkbdhghbaaGreatDoorBase
import Derived.Maps.RangeWalk
import Derived.ChangeMaps5
import Derived.MapFrom
set_option linter.unusedVariables false
set_option linter.unusedSimpArgs false
set_option linter.unusedSectionVars false
namespace Go.Proofs.YtbbfgbkbdhghbaaGreatDoor
open Go.RowKit Go.MapKept
open Go.ChangeMaps (setBlock)

/-! ### association lists -/
section
variable {κ β : Type} [DecidableEq κ]
def alook (es : List (κ × β)) (k : κ) : Option β := (es.find? (fun p => p.1 = k)).map (·.2)
def aput (es : List (κ × β)) (k : κ) (v : β) : List (κ × β) := if (alook es k).isSome then es.map (fun p => if p.1 = k then (k, v) else p) else es ++ [(k, v)]
def adel (es : List (κ × β)) (k : κ) : List (κ × β) := es.filter (fun p => p.1 ≠ k)
end

/-- How keys stand. -/
structure KeyEnc (κ : Type) where
  d : TypeDesc
  enc : κ → Value
  ok : ∀ k, IsKey d (enc k)
  inj : ∀ a b, enc a = enc b → a = b

def strEnc : KeyEnc (List UInt8) where
  d := .string
  enc l := .string ⟨l.toArray⟩
  ok _ := trivial
  inj a b h := by simpa using h
def intEnc : KeyEnc Int where
  d := .int .i64
  enc n := .int .i64 n
  ok _ := rfl
  inj a b h := by simpa using h

section
variable {κ : Type} [DecidableEq κ] {E : KeyEnc κ} {P : Program} {w : World} {b : Nat} {es : List (κ × Value)} {t kt et : TypeId}

/-- Block b is a map of these entries. -/
def MapIs (E : KeyEnc κ) (w : World) (b : Nat) (es : List (κ × Value)) : Prop :=
  ∃ a clock, w.heap[b]? = some (.map a clock) ∧ Stamped a clock ∧ a.toList.map (fun x => (x.key, x.val)) = es.map (fun p => (E.enc p.1, p.2))

theorem MapIs.lt (h : MapIs E w b es) : b < w.heap.size := by
  obtain ⟨a, c, h, _⟩ := h
  exact (Array.getElem?_eq_some_iff.1 h).1
theorem MapIs.ne_cells (h : MapIs E w b es) (cs : Array Value) (T : TypeId) (fr : Nat × Nat) : w.heap[b]? ≠ some (.cells cs T fr) := by
  obtain ⟨a, c, h, _⟩ := h
  rw [h]; simp
theorem MapIs.ext {w' : World} {M : List Nat} (h : MapIs E w b es) (e : Ext M w w') (hm : b ∉ M) : MapIs E w' b es := by
  have hl := h.lt
  obtain ⟨a, c, h, h'⟩ := h
  exact ⟨a, c, (e.block b hl hm).trans h, h'⟩
theorem MapIs.keys {a : Array MapEntry} (h : a.toList.map (fun x => (x.key, x.val)) = es.map (fun p => (E.enc p.1, p.2))) : ∀ x ∈ a.toList, ∃ k, x.key = E.enc k ∧ (k, x.val) ∈ es := by
  intro x hx
  have : (x.key, x.val) ∈ es.map (fun p => (E.enc p.1, p.2)) := h ▸ List.mem_map.2 ⟨x, hx, rfl⟩
  obtain ⟨p, hp, e⟩ := List.mem_map.1 this
  simp at e
  exact ⟨p.1, e.1.symm, by rw [← e.2]; exact hp⟩
theorem MapIs.nodup (h : MapIs E w b es) : (es.map (·.1)).Nodup := by
  obtain ⟨a, c, _, ⟨_, _, h3⟩, h⟩ := h
  have e : a.toList.map (·.key) = (es.map (·.1)).map E.enc := by
    have := congrArg (List.map Prod.fst) h
    simpa [List.map_map, Function.comp_def] using this
  rw [e] at h3
  exact (List.pairwise_map.1 h3).imp (fun hne ee => hne (congrArg E.enc ee))

theorem MapIs.made (w : World) : MapIs E (w.alloc (.map #[] 0)) w.heap.size [] := ⟨#[], 0, heap_alloc_new w _, stamped_empty 0, rfl⟩

theorem alook_none {es : List (κ × Value)} {k : κ} (h : ∀ p ∈ es, p.1 ≠ k) : alook es k = none := by
  simp only [alook, Option.map_eq_none_iff, List.find?_eq_none]
  intro p hp
  simpa using h p hp
theorem alook_some {es : List (κ × Value)} {k : κ} {j : Nat} {v : Value} (hn : (es.map (·.1)).Nodup) (h : es[j]? = some (k, v)) : alook es k = some v := by
  induction es generalizing j with
  | nil => simp at h
  | cons p es ih =>
    cases j with
    | zero => simp at h; subst h; simp [alook]
    | succ j =>
      simp at h hn
      have hm : (k, v) ∈ es := List.mem_of_getElem? h
      have hne : p.1 ≠ k := fun e => hn.1 v (e ▸ hm)
      have := ih hn.2 h
      simp only [alook, List.find?_cons, hne, decide_false] at this ⊢
      exact this

/-- what the look at a key finds -/
theorem MapIs.find (h : MapIs E w b es) (k : κ) : ∃ a clock, w.heap[b]? = some (.map a clock) ∧ Stamped a clock ∧ a.toList.map (fun x => (x.key, x.val)) = es.map (fun p => (E.enc p.1, p.2)) ∧
    ((alook es k = none ∧ Instr.findNow E.d (E.enc k) a.toList 0 = some none ∧ ∀ x ∈ a.toList, x.key ≠ E.enc k) ∨
     ∃ j e, alook es k = some e.val ∧ Instr.findNow E.d (E.enc k) a.toList 0 = some (some (j, e.val)) ∧ a[j]? = some e ∧ e.key = E.enc k ∧ es[j]? = some (k, e.val)) := by
  have hn := h.nodup
  obtain ⟨a, c, hb, hs, he⟩ := h
  refine ⟨a, c, hb, hs, he, ?_⟩
  have hk : ∀ x ∈ a.toList, IsKey E.d x.key := fun x hx => by
    obtain ⟨k', e, _⟩ := MapIs.keys he x hx
    rw [e]; exact E.ok _
  rcases findNow_spec (E.ok k) a.toList 0 hk with ⟨h1, h2⟩ | ⟨j, e, h1, h2, h3⟩
  · refine .inl ⟨alook_none fun p hp ee => ?_, h1, h2⟩
    have : (E.enc p.1, p.2) ∈ a.toList.map (fun x => (x.key, x.val)) := he ▸ List.mem_map.2 ⟨p, hp, rfl⟩
    obtain ⟨x, hx, e⟩ := List.mem_map.1 this
    simp at e
    exact h2 x hx (by rw [e.1, ee])
  · right
    have h4 : (a.toList.map (fun x => (x.key, x.val)))[j]? = some (E.enc k, e.val) := by rw [List.getElem?_map, h2]; simp [h3]
    rw [he, List.getElem?_map, Option.map_eq_some_iff] at h4
    obtain ⟨p, hp, e4⟩ := h4
    simp at e4
    obtain ⟨p1, p2⟩ := p
    have e5 := E.inj _ _ e4.1
    simp at e5 e4
    subst e5
    have h5 := e4.2
    subst h5
    exact ⟨j, e, alook_some hn hp, by simpa using h1, by simpa using h2, h3, hp⟩

theorem MapIs.look (h : MapIs E w b es) (ht : P.underlying t = some (.map kt et)) (hk : P.underlying kt = some E.d) {z : Value} (hz : (zeroValue et).run P w = .ok z w) (k : κ) :
    (Instr.lookup t (.map (some b)) (E.enc k) true).run P w = .ok (.tuple #[(alook es k).getD z, .bool (alook es k).isSome]) w := by
  obtain ⟨a, c, hb, hs, he, ⟨h1, h2, _⟩ | ⟨j, e, h1, h2, _⟩⟩ := h.find k
  · simp [Instr.lookup, run_underlying ht, MapKept.run_getObj_map hb, run_checkKey hk (E.ok k), run_findKey hk h2, Result.andThen, h1, hz]
  · simp [Instr.lookup, run_underlying ht, MapKept.run_getObj_map hb, run_checkKey hk (E.ok k), run_findKey hk h2, Result.andThen, h1]
theorem MapIs.look1 (h : MapIs E w b es) (ht : P.underlying t = some (.map kt et)) (hk : P.underlying kt = some E.d) {z : Value} (hz : (zeroValue et).run P w = .ok z w) (k : κ) :
    (Instr.lookup t (.map (some b)) (E.enc k) false).run P w = .ok ((alook es k).getD z) w := by
  obtain ⟨a, c, hb, hs, he, ⟨h1, h2, _⟩ | ⟨j, e, h1, h2, _⟩⟩ := h.find k
  · simp [Instr.lookup, run_underlying ht, MapKept.run_getObj_map hb, run_checkKey hk (E.ok k), run_findKey hk h2, Result.andThen, h1, hz]
  · simp [Instr.lookup, run_underlying ht, MapKept.run_getObj_map hb, run_checkKey hk (E.ok k), run_findKey hk h2, Result.andThen, h1]

theorem ext_setBlock (hb : b < w.heap.size) (o : Obj) : Ext [b] w (setBlock w b o) :=
  ⟨rfl, rfl, rfl, by simp [setBlock], fun k _ hm => by
    have : b ≠ k := fun e => hm (by simp [e])
    simp [setBlock, this]⟩
theorem setBlock_size (o : Obj) : (setBlock w b o).heap.size = w.heap.size := by simp [setBlock]
theorem setBlock_at (hb : b < w.heap.size) (o : Obj) : (setBlock w b o).heap[b]? = some o := by simp [setBlock, hb]

theorem run_keep (k : κ) (w : World) : (Instr.keyThatStays (E.enc k) (E.enc k)).run P w = .ok (E.enc k) w := by
  have h := E.ok k
  unfold Instr.keyThatStays
  have : Instr.sameBits 10000 (E.enc k) (E.enc k) = true := by
    revert h
    generalize E.d = d
    generalize E.enc k = v
    intro h
    cases d <;> cases v <;> simp_all [IsKey, Instr.sameBits]
    exact (bytes_beq _ _).2 rfl
  rw [if_pos this]
  rfl

theorem MapIs.put (h : MapIs E w b es) (ht : P.underlying t = some (.map kt et)) (hk : P.underlying kt = some E.d) (k : κ) (v : Value) :
    ∃ w', (Instr.mapUpdate t (.map (some b)) (E.enc k) v).run P w = .ok () w' ∧ MapIs E w' b (aput es k v) ∧ Ext [b] w w' ∧ w'.heap.size = w.heap.size := by
  have hl := h.lt
  obtain ⟨a, c, hb, hs, he, ⟨h1, h2, h3⟩ | ⟨j, e, h1, h2, h3, h4, h5⟩⟩ := h.find k
  · refine ⟨setBlock w b (.map (a.push ⟨E.enc k, v, c⟩) (c + 1)), ?_, ⟨_, _, setBlock_at hl _, stamped_push hs h3, ?_⟩, ext_setBlock hl _, setBlock_size _⟩
    · simp [Instr.mapUpdate, run_underlying ht, MapKept.run_getObj_map hb, run_checkKey hk (E.ok k), run_findKey hk h2, MapKept.run_setObj_map _ hb, Result.andThen, setBlock]
    · simp [aput, h1, he]
  · have hkeyf : ∀ e', a[j]? = some e' → ({ e' with key := E.enc k, val := v } : MapEntry).key = e'.key := fun e' he' => by rw [h3] at he'; cases he'; exact h4.symm
    refine ⟨setBlock w b (.map (a.modify j (fun e' => { e' with key := E.enc k, val := v })) c), ?_, ⟨_, _, setBlock_at hl _, stamped_modify hs _ _ (fun _ _ => rfl) (fun e' _ he' => hkeyf e' he'), ?_⟩, ext_setBlock hl _, setBlock_size _⟩
    · simp [Instr.mapUpdate, run_underlying ht, MapKept.run_getObj_map hb, run_checkKey hk (E.ok k), run_findKey hk h2, h3, h4, run_keep, MapKept.run_setObj_map _ hb, Result.andThen, setBlock]
    · have hn := (show MapIs E w b es from ⟨a, c, hb, hs, he⟩).nodup
      simp only [aput, h1, Option.isSome_some, if_true, Array.toList_modify, List.map_map]
      apply List.ext_getElem?
      intro i
      have hi : (a.toList.map (fun x => (x.key, x.val)))[i]? = (es.map (fun p => (E.enc p.1, p.2)))[i]? := by rw [he]
      simp only [List.getElem?_map, List.getElem?_modify, Function.comp_def] at hi ⊢
      by_cases hij : j = i
      · subst hij
        simp only [h5] at hi ⊢
        simp [h3]
      · simp only [hij, if_false, Option.map_id_fun, id]
        cases hp : es[i]? with
        | none => simp [hp] at hi ⊢; exact hi
        | some p =>
          have hne : p.1 ≠ k := fun ee => by
            have q1 : (es.map (·.1))[i]? = some k := by simp [hp, ee]
            have q2 : (es.map (·.1))[j]? = some k := by simp [h5]
            have := (List.getElem?_inj (by have := (List.getElem?_eq_some_iff.1 q2).1; exact this) hn).1 (q2.trans q1.symm)
            exact hij this
          simp [hp, hne] at hi ⊢
          exact hi

theorem MapIs.del {ty : TypeId} (h : MapIs E w b es) (ht : P.underlying t = some (.map kt et)) (hk : P.underlying kt = some E.d) (k : κ) :
    ∃ w', (Builtin.delete_ #[t, kt] ty #[.map (some b), E.enc k]).run P w = .ok (.tuple #[]) w' ∧ MapIs E w' b (adel es k) ∧ Ext [b] w w' ∧ w'.heap.size = w.heap.size := by
  have hl := h.lt
  have hn := h.nodup
  obtain ⟨a, c, hb, hs, he, ⟨h1, h2, h3⟩ | ⟨j, e, h1, h2, h3, h4, h5⟩⟩ := h.find k
  · refine ⟨setBlock w b (.map a c), ?_, ⟨_, _, setBlock_at hl _, hs, ?_⟩, ext_setBlock hl _, setBlock_size _⟩
    · simp [Builtin.delete_, run_underlying ht, MapKept.run_getObj_map hb, run_checkKey hk (E.ok k), run_findKey hk h2, MapKept.run_setObj_map _ hb, Result.andThen, setBlock]
    · rw [he]
      congr 1
      refine (List.filter_eq_self.2 fun p hp => ?_).symm
      simp only [ne_eq, decide_not, Bool.not_eq_eq_eq_not, Bool.not_true, decide_eq_false_iff_not]
      intro ee
      have : (E.enc p.1, p.2) ∈ a.toList.map (fun x => (x.key, x.val)) := he ▸ List.mem_map.2 ⟨p, hp, rfl⟩
      obtain ⟨x, hx, e⟩ := List.mem_map.1 this
      simp at e
      exact h3 x hx (by rw [e.1, ee])
  · have hjs : j < a.size := (Array.getElem?_eq_some_iff.1 h3).1
    have hsub : (a.eraseIdxIfInBounds j).toList = a.toList.eraseIdx j := by
      unfold Array.eraseIdxIfInBounds
      rw [dif_pos hjs]
      simp
    refine ⟨setBlock w b (.map (a.eraseIdxIfInBounds j) c), ?_, ⟨_, _, setBlock_at hl _, stamped_erase hs j, ?_⟩, ext_setBlock hl _, setBlock_size _⟩
    · simp [Builtin.delete_, run_underlying ht, MapKept.run_getObj_map hb, run_checkKey hk (E.ok k), run_findKey hk h2, MapKept.run_setObj_map _ hb, Result.andThen, setBlock]
    · rw [hsub, ChangeMaps.map_eraseIdx, he, ← ChangeMaps.map_eraseIdx]
      congr 1
      have := ChangeMaps.filter_eq_eraseIdx (fun p : κ × Value => decide (p.1 = k)) es j (k, e.val) h5 (by simp) (by
        have := List.pairwise_map.1 hn
        exact this.imp fun hne ⟨q1, q2⟩ => hne (by simp at q1 q2; rw [q1, q2]))
      rw [← this]
      simp [adel]

theorem MapIs.clear {ty : TypeId} (h : MapIs E w b es) (ht : P.underlying t = some (.map kt et)) :
    ∃ w', (Builtin.clear_ #[t] ty #[.map (some b)]).run P w = .ok (.tuple #[]) w' ∧ MapIs E w' b [] ∧ Ext [b] w w' ∧ w'.heap.size = w.heap.size := by
  have hl := h.lt
  obtain ⟨a, c, hb, hs, he⟩ := h
  refine ⟨setBlock w b (.map #[] c), ?_, ⟨_, _, setBlock_at hl _, stamped_empty c, rfl⟩, ext_setBlock hl _, setBlock_size _⟩
  simp [Builtin.clear_, run_underlying ht, MapKept.run_getObj_map hb, MapKept.run_setObj_map _ hb, Result.andThen, setBlock]

/-! ### ranging over a map that the loop does not write -/
/-- Block r ranges over the map of block b, whose entries are es; left: those still to come. -/
def Iter (E : KeyEnc κ) (w : World) (r b : Nat) (es left : List (κ × Value)) : Prop :=
  ∃ a clock seen, w.heap[b]? = some (.map a clock) ∧ Stamped a clock ∧ a.toList.map (fun x => (x.key, x.val)) = es.map (fun p => (E.enc p.1, p.2)) ∧
    w.heap[r]? = some (.mapIter (some b) clock seen clock) ∧ (leftOf a seen).toList.map (fun x => (x.key, x.val)) = left.map (fun p => (E.enc p.1, p.2))

theorem Iter.map {r : Nat} {left : List (κ × Value)} (h : Iter E w r b es left) : MapIs E w b es := by
  obtain ⟨a, c, s, h1, h2, h3, _⟩ := h
  exact ⟨a, c, h1, h2, h3⟩
theorem Iter.lt {r : Nat} {left : List (κ × Value)} (h : Iter E w r b es left) : r < w.heap.size := by
  obtain ⟨a, c, s, h1, h2, h3, h4, _⟩ := h
  exact (Array.getElem?_eq_some_iff.1 h4).1
theorem Iter.ne_cells {r : Nat} {left : List (κ × Value)} (h : Iter E w r b es left) (cs : Array Value) (T : TypeId) (fr : Nat × Nat) : w.heap[r]? ≠ some (.cells cs T fr) := by
  obtain ⟨a, c, s, h1, h2, h3, h4, _⟩ := h
  rw [h4]; simp
theorem Iter.ext {r : Nat} {left : List (κ × Value)} {w' : World} {M : List Nat} (h : Iter E w r b es left) (e : Ext M w w') (hb : b ∉ M) (hr : r ∉ M) : Iter E w' r b es left := by
  have hl := h.map.lt
  have hl' := h.lt
  obtain ⟨a, c, s, h1, h2, h3, h4, h5⟩ := h
  exact ⟨a, c, s, (e.block b hl hb).trans h1, h2, h3, (e.block r hl' hr).trans h4, h5⟩

theorem Iter.start (h : MapIs E w b es) (ht : P.underlying t = some (.map kt et)) :
    (Instr.range t (.map (some b))).run P w = .ok (.pointer (some ⟨w.heap.size, 0, none⟩)) (w.alloc (.mapIter (some b) (h.choose_spec.choose) #[] (h.choose_spec.choose))) ∧
      Iter E (w.alloc (.mapIter (some b) (h.choose_spec.choose) #[] (h.choose_spec.choose))) w.heap.size b es es := by
  have hl := h.lt
  have hs := h.choose_spec.choose_spec
  generalize h.choose_spec.choose = c at hs ⊢
  generalize h.choose = a at hs
  obtain ⟨h1, h2, h3⟩ := hs
  refine ⟨run_range_map w t kt et b a c ht h1, a, c, #[], (heap_alloc_old w _ hl).trans h1, h2, h3, heap_alloc_new w _, ?_⟩
  have : (leftOf a #[]) = a := by simp [leftOf]
  rw [this, h3]

theorem leftOf_push (a : Array MapEntry) (seen : Array Nat) (n : Nat) : leftOf a (seen.push n) = (leftOf a seen).filter (fun e => e.born ≠ n) := by
  unfold leftOf
  rw [Array.filter_filter]
  congr 1
  funext e
  simp [Bool.and_comm, Bool.not_or]

theorem Iter.next {r : Nat} {left : List (κ × Value)} (h : Iter E w r b es left) (ty : TypeId) :
    (left = [] ∧ (Instr.next (.pointer (some ⟨r, 0, none⟩)) false ty).run P w = .ok (.tuple #[.bool false]) w) ∨
    ∃ pre k v post w', left = pre ++ (k, v) :: post ∧ (k, v) ∈ es ∧ (Instr.next (.pointer (some ⟨r, 0, none⟩)) false ty).run P w = .ok (.tuple #[.bool true, E.enc k, v]) w' ∧
      (Instr.entry (.pointer (some ⟨r, 0, none⟩))).run P w' = .ok (.tuple #[E.enc k, v]) w' ∧ Iter E w' r b es (pre ++ post) ∧ Ext [r] w w' ∧ w'.heap.size = w.heap.size := by
  have hl := h.lt
  have hbl := h.map.lt
  obtain ⟨a, c, seen, h1, h2, h3, h4, h5⟩ := h
  have hne : b ≠ r := fun e => by subst e; rw [h1] at h4; simp at h4
  rcases run_next_at (P := P) w ty r b c c seen a c h4 h1 h2.1 (Nat.le_refl _) with ⟨h0, hr⟩ | ⟨e, he, w1, hw1, hr⟩
  · left
    refine ⟨?_, hr⟩
    have : (leftOf a seen).toList.length = 0 := by simpa using h0
    have : left.length = 0 := by have := congrArg List.length h5; simp at this; omega
    exact List.eq_nil_of_length_eq_zero this
  · right
    obtain ⟨pre0, post0, hsp⟩ := List.append_of_mem he
    have hw : w1.heap = w.heap ∧ w1.os = w.os ∧ w1.tape = w.tape ∧ w1.output = w.output := by rcases hw1 with rfl | rfl <;> exact ⟨rfl, rfl, rfl, rfl⟩
    rw [hsp] at h5
    simp only [List.map_append, List.map_cons] at h5
    have hmem : e ∈ a.toList := by
      simp [leftOf] at he
      simpa using he.1
    obtain ⟨k, hk1, hk2⟩ := MapIs.keys h3 e hmem
    -- the list of what is left, split alike
    have hlen : pre0.length < left.length := by have := congrArg List.length h5; simp at this; omega
    have hat : (left.map (fun p => (E.enc p.1, p.2)))[pre0.length]? = some (e.key, e.val) := by rw [← h5]; simp
    rw [List.getElem?_map, Option.map_eq_some_iff] at hat
    obtain ⟨p, hp, hpe⟩ := hat
    obtain ⟨p1, p2⟩ := p
    simp at hpe
    have ep : p1 = k := E.inj _ _ (hpe.1.trans hk1)
    subst ep
    have hsplit : left = left.take pre0.length ++ (p1, p2) :: left.drop (pre0.length + 1) := by
      have e1 := List.take_append_drop pre0.length left
      rw [List.drop_eq_getElem_cons hlen] at e1
      rw [List.getElem?_eq_getElem hlen] at hp
      injection hp with hp
      rw [hp] at e1
      exact e1.symm
    have hsz : (setBlock w1 r (.mapIter (some b) c (seen.push e.born) c)).heap.size = w.heap.size := by rw [setBlock_size, hw.1]
    have hx : Ext [r] w (setBlock w1 r (.mapIter (some b) c (seen.push e.born) c)) :=
      ⟨hw.2.1, hw.2.2.1, hw.2.2.2, by omega, fun k' _ hm => by
        have : r ≠ k' := fun e => hm (by simp [e])
        simp [setBlock, this, hw.1]⟩
    have hb' : (setBlock w1 r (.mapIter (some b) c (seen.push e.born) c)).heap[b]? = some (.map a c) := (hx.block b hbl (by simpa using hne)).trans h1
    have hr' : (setBlock w1 r (.mapIter (some b) c (seen.push e.born) c)).heap[r]? = some (.mapIter (some b) c (seen.push e.born) c) := setBlock_at (by rw [hw.1]; exact hl) _
    refine ⟨left.take pre0.length, p1, e.val, left.drop (pre0.length + 1), _, by rw [← hpe.2]; exact hsplit, hk2, by rw [hr, hk1], ?_, ⟨a, c, seen.push e.born, hb', h2, h3, hr', ?_⟩, hx, hsz⟩
    · rw [run_entry_at _ r b c seen a c e hr' hb' hmem h2.2.1, hk1]
    · rw [leftOf_push, Array.toList_filter, hsp]
      have hnd : (pre0 ++ e :: post0).map (·.born) |>.Nodup := by
        rw [← hsp]
        refine (List.Sublist.nodup ?_ h2.2.1)
        unfold leftOf
        rw [Array.toList_filter]
        exact List.filter_sublist.map _
      simp only [List.map_append, List.map_cons, List.nodup_append, List.nodup_cons] at hnd
      have f1 : pre0.filter (fun x => decide (x.born ≠ e.born)) = pre0 := List.filter_eq_self.2 fun x hx => by
        simp only [decide_eq_true_eq]
        exact hnd.2.2 _ (List.mem_map.2 ⟨x, hx, rfl⟩) _ (.head _)
      have f2 : post0.filter (fun x => decide (x.born ≠ e.born)) = post0 := List.filter_eq_self.2 fun x hx => by
        simp only [decide_eq_true_eq]
        intro ee
        exact hnd.2.1.1 (List.mem_map.2 ⟨x, hx, ee⟩)
      rw [List.filter_append, List.filter_cons]
      simp only [ne_eq, not_true_eq_false, decide_false, Bool.false_eq_true, if_false]
      rw [f1, f2, List.map_append, List.map_append, List.map_take, List.map_drop, ← h5]
      have q1 : pre0.length = (pre0.map (fun x => (x.key, x.val))).length := by simp
      rw [q1, List.take_left, ← List.drop_drop, List.drop_left' rfl]
      rfl
end
end Go.Proofs.YtbbfgbkbdhghbaaGreatDoor
