/-
  What a call may turn, and how slices and bytes lie in memory: plain laws, no condition.
  Maps as lists of entries, and ranges over them: plain laws.
  append, copy and make, as a walk meets them: plain laws.
  Sorted tables of keys: plain laws.
  What the walks share.
-/
import Derived.WalkKit
import Derived.Lib.Hide
import Derived.Deep.QuietTactic
import Derived.BigQuiet
import Derived.Maps.RangeWalk
import Derived.ChangeMaps5
import Derived.MapFrom
import Derived.Maps.AppendAt
import Derived.Laws.CopyOwn
import Derived.Laws.MakeOwn
import Derived.Test.YtbbfgbkbdhghbaaGreatDoorProg
import Derived.WalkLawsBesides
import Derived.WalkSpells
import Derived.RegionTactic
import Derived.BigRegion
import Derived.Deep.RegionHeld3
import Derived.StillTailTactics
import Derived.Deep.RegionWith
import Derived.Deep.RegionLaw
set_option linter.unusedVariables false
set_option linter.unusedSimpArgs false
set_option linter.unusedSectionVars false
namespace Go.Proofs.YtbbfgbkbdhghbaaGreatDoor
open Go.RowKit

/-- What a call may turn: of the blocks that were there only those of M. -/
structure Ext (M : List Nat) (w w' : World) : Prop where
  os : w'.os = w.os
  tape : w'.tape = w.tape
  output : w'.output = w.output
  size : w.heap.size ≤ w'.heap.size
  block : ∀ k, k < w.heap.size → k ∉ M → w'.heap[k]? = w.heap[k]?

theorem Ext.refl (M : List Nat) (w : World) : Ext M w w := ⟨rfl, rfl, rfl, Nat.le_refl _, fun _ _ _ => rfl⟩

theorem Ext.trans {M M' : List Nat} {w w1 w2 : World} (h : Ext M w w1) (h' : Ext M' w1 w2) (hM : ∀ k ∈ M', k < w.heap.size → k ∈ M) : Ext M w w2 :=
  ⟨h'.os.trans h.os, h'.tape.trans h.tape, h'.output.trans h.output, Nat.le_trans h.size h'.size,
    fun k hk hm => (h'.block k (Nat.lt_of_lt_of_le hk h.size) (fun e => hm (hM k e hk))).trans (h.block k hk hm)⟩

theorem Ext.then {M : List Nat} {w w1 w2 : World} (h : Ext M w w1) (h' : Ext [] w1 w2) : Ext M w w2 := h.trans h' (by simp)
theorem Ext.same {M : List Nat} {w w1 w2 : World} (h : Ext M w w1) (h' : Ext M w1 w2) : Ext M w w2 := h.trans h' (fun _ h _ => h)
theorem Ext.mono {M M' : List Nat} {w w1 : World} (h : Ext M w w1) (hM : ∀ k ∈ M, k < w.heap.size → k ∈ M') : Ext M' w w1 :=
  (Ext.refl M' w).trans h hM

theorem Ext.drew {M : List Nat} {w w1 : World} (h : Ext M w w1) : Ext M w w1.drew := ⟨h.os, h.tape, h.output, h.size, h.block⟩
theorem Ext.drewN {M : List Nat} {w w1 : World} (h : Ext M w w1) (n : Nat) : Ext M w (w1.drewN n) := ⟨h.os, h.tape, h.output, h.size, h.block⟩
theorem Ext.alloc {M : List Nat} {w w1 : World} (h : Ext M w w1) (o : Obj) : Ext M w (w1.alloc o) :=
  h.then ⟨rfl, rfl, rfl, by simp, fun k hk _ => Below.heap_alloc _ _ _ hk⟩
theorem Ext.setCell {M : List Nat} {w w1 : World} (h : Ext M w w1) {p : Addr} (hp : p.block < w.heap.size → p.block ∈ M) (u : Value) : Ext M w (w1.setCell p u) :=
  h.trans (M' := [p.block]) ⟨rfl, rfl, rfl, by simp [World.setCell], fun k _ hm => Below.heap_setCell _ _ _ _ (by simpa using hm)⟩ (by simpa using hp)
theorem Ext.grown {M : List Nat} {w w1 w2 : World} {row : Option Nat} (h : Ext M w w1) (hg : w1.grownBy w2 row) (hr : ∀ k, row = some k → k < w.heap.size → k ∈ M) : Ext M w w2 :=
  h.trans (M' := row.toList) ⟨hg.os, hg.tape, hg.output, hg.size, fun k hk hm => hg.block k hk (fun e => hm (by simp [← e]))⟩ (by simpa using hr)
theorem Ext.below {w w1 : World} (h : Ext [] w w1) : Below w.heap.size w w1 := ⟨h.os, h.tape, h.output, h.size, fun k hk => h.block k hk (by simp)⟩
theorem Ext.of_below {w w1 : World} (h : Below w.heap.size w w1) : Ext [] w w1 := ⟨h.os, h.tape, h.output, h.size, fun k hk _ => h.block k hk⟩

/-! ### cells in a block -/
/-- From cell off on of block b (of cells of type T) stand the values xs. -/
def Row (w : World) (T : TypeId) (b off : Nat) (xs : List Value) : Prop :=
  ∃ cs fr, w.heap[b]? = some (.cells cs T fr) ∧ off + xs.length ≤ cs.size ∧ (cs.toList.drop off).take xs.length = xs

theorem Row.lt {w : World} {T : TypeId} {b off : Nat} {xs : List Value} (h : Row w T b off xs) : b < w.heap.size := by
  obtain ⟨cs, fr, h1, _⟩ := h
  exact (Array.getElem?_eq_some_iff.1 h1).1
theorem Row.cell {w : World} {T : TypeId} {b off : Nat} {xs : List Value} (h : Row w T b off xs) {i : Nat} {v : Value} (hi : xs[i]? = some v) : w.cell? ⟨b, off + i, none⟩ = some v := by
  obtain ⟨cs, fr, h1, h2, h3⟩ := h
  obtain ⟨hl, hv⟩ := List.getElem?_eq_some_iff.1 hi
  have : ((cs.toList.drop off).take xs.length)[i]? = some v := by rw [h3]; exact hi
  simp only [World.cell?, h1]
  rw [List.getElem?_take_of_lt hl, List.getElem?_drop] at this
  simpa using this
theorem Row.ext {w w' : World} {T : TypeId} {b off : Nat} {xs : List Value} (h : Row w T b off xs) {M : List Nat} (e : Ext M w w') (hm : b ∉ M) : Row w' T b off xs := by
  have hl := h.lt
  obtain ⟨cs, fr, h1, h2⟩ := h
  exact ⟨cs, fr, (e.block b hl hm).trans h1, h2⟩
theorem Row.type {w : World} {T T' : TypeId} {b off : Nat} {xs : List Value} {cs : Array Value} {fr : Nat × Nat} (h : Row w T b off xs) (h' : w.heap[b]? = some (.cells cs T' fr)) : T' = T := by
  obtain ⟨cs1, fr1, h1, _⟩ := h
  rw [h1] at h'
  injection h' with h'
  injection h' with _ h' _
  exact h'.symm
theorem Row.sub {w : World} {T : TypeId} {b off : Nat} {xs : List Value} (h : Row w T b off xs) (i n : Nat) (hn : i + n ≤ xs.length) : Row w T b (off + i) ((xs.drop i).take n) := by
  obtain ⟨cs, fr, h1, h2, h3⟩ := h
  refine ⟨cs, fr, h1, ?_, ?_⟩
  · simp; omega
  · have : ((xs.drop i).take n).length = n := by simp; omega
    rw [this]
    conv => rhs; rw [← h3]
    rw [List.drop_take, List.take_take, List.drop_drop]
    congr 1
    omega

/-- A slice of n elements whose cells, one behind the other, hold xs. -/
def Sl (w : World) (T : TypeId) (v : Value) (n : Nat) (xs : List Value) : Prop :=
  ∃ p c, v = .slice p n c ∧ n ≤ c ∧ c ≤ 9223372036854775807 ∧ (n = 0 ∧ xs = [] ∨ 0 < n ∧ ∃ b off, p = some ⟨b, off, none⟩ ∧ Row w T b off xs)

theorem Sl.len {w : World} {T : TypeId} {p : Option Addr} {n n' c : Nat} {xs : List Value} (h : Sl w T (.slice p n' c) n xs) : n' = n := by
  obtain ⟨p, c, h, _⟩ := h
  injection h
theorem Sl.shape {w : World} {T : TypeId} {v : Value} {n : Nat} {xs : List Value} (h : Sl w T v n xs) : ∃ p c, v = .slice p n c ∧ n ≤ c ∧ c ≤ 9223372036854775807 := by
  obtain ⟨p, c, h, h1, h2, _⟩ := h
  exact ⟨p, c, h, h1, h2⟩
theorem Sl.at {w : World} {T : TypeId} {v : Value} {n : Nat} {xs : List Value} (h : Sl w T v n xs) (hn : 0 < n) : ∃ b off c, v = .slice (some ⟨b, off, none⟩) n c ∧ Row w T b off xs := by
  obtain ⟨p, c, rfl, _, _, h | ⟨_, b, off, rfl, h⟩⟩ := h
  · omega
  · exact ⟨b, off, c, rfl, h⟩
theorem Sl.ext {w w' : World} {T : TypeId} {v : Value} {n : Nat} {xs : List Value} (h : Sl w T v n xs) {M : List Nat} (e : Ext M w w')
    (hm : ∀ b ∈ M, ∀ cs fr, w.heap[b]? ≠ some (.cells cs T fr)) : Sl w' T v n xs := by
  obtain ⟨p, c, rfl, h1, h2, h | ⟨hn, b, off, rfl, h⟩⟩ := h
  · exact ⟨p, c, rfl, h1, h2, .inl h⟩
  · refine ⟨_, c, rfl, h1, h2, .inr ⟨hn, b, off, rfl, h.ext e (fun hb => ?_)⟩⟩
    obtain ⟨cs, fr, hh, _⟩ := h
    exact hm b hb cs fr hh
theorem Sl.then {w w' : World} {T : TypeId} {v : Value} {n : Nat} {xs : List Value} (h : Sl w T v n xs) (e : Ext [] w w') : Sl w' T v n xs := h.ext e (by simp)
theorem Sl.nil (w : World) (T : TypeId) : Sl w T (.slice none 0 0) 0 [] := ⟨none, 0, rfl, Nat.le_refl _, by omega, .inl ⟨rfl, rfl⟩⟩

/-! ### bytes -/
def bv (b : UInt8) : Value := .int .u8 (b.toNat : Int)
def Bs (U : TypeId) (w : World) (v : Value) (l : List UInt8) : Prop := Sl w U v l.length (l.map bv)
theorem Bs.sl {U : TypeId} {w : World} {v : Value} {l : List UInt8} (h : Bs U w v l) : Sl w U v l.length (l.map bv) := h
theorem Bs.then {U : TypeId} {w w' : World} {v : Value} {l : List UInt8} (h : Bs U w v l) (e : Ext [] w w') : Bs U w' v l := Sl.then h e

/-- what one owns, to be read on. -/
theorem Sl.of_own {w : World} {base T size n : Nat} {v : Value} {xs : List Value} (h : w.ownsRow base T size v n xs) (hs : 0 < size) : Sl w T v n xs := by
  obtain ⟨hl, h | ⟨g, cap, cur, rfl, hg, hh, h1, h2, h3, h4⟩⟩ := h
  · obtain ⟨rfl, rfl⟩ := h
    have : xs = [] := by simpa using hl
    subst this
    exact Sl.nil _ _
  · unfold maxLen at h2
    refine ⟨_, cap, rfl, h1, by omega, ?_⟩
    rcases Nat.eq_zero_or_pos n with rfl | hn
    · left; simp at hl; exact ⟨rfl, hl⟩
    · right
      refine ⟨hn, g, 0, rfl, cur, (0, 0), hh, ?_, ?_⟩
      · rw [hl, h3]; simp; exact Nat.mul_le_mul_right _ h1
      · simp [hl, h4]


theorem Ext.cell {M : List Nat} {w w' : World} {b off : Nat} {v : Value} (e : Ext M w w') (hb : b ∉ M) (h : w.cell? ⟨b, off, none⟩ = some v) : w'.cell? ⟨b, off, none⟩ = some v := by
  have hl : b < w.heap.size := by
    by_cases hl : b < w.heap.size
    · exact hl
    · simp [World.cell?, Array.getElem?_eq_none (Nat.le_of_not_lt hl)] at h
  rw [World.cell?, e.block b hl hb]
  exact h
theorem Ext.at {M : List Nat} {w w' : World} {k : Nat} {o : Obj} (x : Ext M w w') (h : w.heap[k]? = some o) (hk : k ∉ M) : w'.heap[k]? = some o := (x.block k (Array.getElem?_eq_some_iff.1 h).1 hk).trans h
theorem cell_of {w : World} {k off : Nat} {cs : Array Value} {T : TypeId} {fr : Nat × Nat} {v : Value} (h : w.heap[k]? = some (.cells cs T fr)) (hv : cs[off]? = some v) : w.cell? ⟨k, off, none⟩ = some v := by
  simp only [World.cell?, h]; exact hv
end Go.Proofs.YtbbfgbkbdhghbaaGreatDoor

set_option linter.unusedVariables false
set_option linter.unusedSimpArgs false
set_option linter.unusedSectionVars false
namespace Go.Proofs.YtbbfgbkbdhghbaaGreatDoor
open Go.RowKit Go.MapKept
open Go.ChangeMaps (setBlock)

/-! ### association lists -/
section
variable {κ β : Type} [DecidableEq κ]
def alook (es : List (κ × β)) (k : κ) : Option β := (es.find? (fun p => p.1 = k)).map (·.2)
def aput (es : List (κ × β)) (k : κ) (v : β) : List (κ × β) := if (alook es k).isSome then es.map (fun p => if p.1 = k then (k, v) else p) else es ++ [(k, v)]
def adel (es : List (κ × β)) (k : κ) : List (κ × β) := es.filter (fun p => p.1 ≠ k)
end

/-- How keys stand. -/
structure KeyEnc (κ : Type) where
  d : TypeDesc
  enc : κ → Value
  ok : ∀ k, IsKey d (enc k)
  inj : ∀ a b, enc a = enc b → a = b

def strEnc : KeyEnc (List UInt8) where
  d := .string
  enc l := .string ⟨l.toArray⟩
  ok _ := trivial
  inj a b h := by simpa using h
def intEnc : KeyEnc Int where
  d := .int .i64
  enc n := .int .i64 n
  ok _ := rfl
  inj a b h := by simpa using h

section
variable {κ : Type} [DecidableEq κ] {E : KeyEnc κ} {P : Program} {w : World} {b : Nat} {es : List (κ × Value)} {t kt et : TypeId}

/-- Block b is a map of these entries. -/
def MapIs (E : KeyEnc κ) (w : World) (b : Nat) (es : List (κ × Value)) : Prop :=
  ∃ a clock, w.heap[b]? = some (.map a clock) ∧ Stamped a clock ∧ a.toList.map (fun x => (x.key, x.val)) = es.map (fun p => (E.enc p.1, p.2))

theorem MapIs.lt (h : MapIs E w b es) : b < w.heap.size := by
  obtain ⟨a, c, h, _⟩ := h
  exact (Array.getElem?_eq_some_iff.1 h).1
theorem MapIs.ne_cells (h : MapIs E w b es) (cs : Array Value) (T : TypeId) (fr : Nat × Nat) : w.heap[b]? ≠ some (.cells cs T fr) := by
  obtain ⟨a, c, h, _⟩ := h
  rw [h]; simp
theorem MapIs.ext {w' : World} {M : List Nat} (h : MapIs E w b es) (e : Ext M w w') (hm : b ∉ M) : MapIs E w' b es := by
  have hl := h.lt
  obtain ⟨a, c, h, h'⟩ := h
  exact ⟨a, c, (e.block b hl hm).trans h, h'⟩
theorem MapIs.keys {a : Array MapEntry} (h : a.toList.map (fun x => (x.key, x.val)) = es.map (fun p => (E.enc p.1, p.2))) : ∀ x ∈ a.toList, ∃ k, x.key = E.enc k ∧ (k, x.val) ∈ es := by
  intro x hx
  have : (x.key, x.val) ∈ es.map (fun p => (E.enc p.1, p.2)) := h ▸ List.mem_map.2 ⟨x, hx, rfl⟩
  obtain ⟨p, hp, e⟩ := List.mem_map.1 this
  simp at e
  exact ⟨p.1, e.1.symm, by rw [← e.2]; exact hp⟩
theorem MapIs.nodup (h : MapIs E w b es) : (es.map (·.1)).Nodup := by
  obtain ⟨a, c, _, ⟨_, _, h3⟩, h⟩ := h
  have e : a.toList.map (·.key) = (es.map (·.1)).map E.enc := by
    have := congrArg (List.map Prod.fst) h
    simpa [List.map_map, Function.comp_def] using this
  rw [e] at h3
  exact (List.pairwise_map.1 h3).imp (fun hne ee => hne (congrArg E.enc ee))

theorem MapIs.made (w : World) : MapIs E (w.alloc (.map #[] 0)) w.heap.size [] := ⟨#[], 0, heap_alloc_new w _, stamped_empty 0, rfl⟩

theorem alook_none {es : List (κ × Value)} {k : κ} (h : ∀ p ∈ es, p.1 ≠ k) : alook es k = none := by
  simp only [alook, Option.map_eq_none_iff, List.find?_eq_none]
  intro p hp
  simpa using h p hp
theorem alook_some {es : List (κ × Value)} {k : κ} {j : Nat} {v : Value} (hn : (es.map (·.1)).Nodup) (h : es[j]? = some (k, v)) : alook es k = some v := by
  induction es generalizing j with
  | nil => simp at h
  | cons p es ih =>
    cases j with
    | zero => simp at h; subst h; simp [alook]
    | succ j =>
      simp at h hn
      have hm : (k, v) ∈ es := List.mem_of_getElem? h
      have hne : p.1 ≠ k := fun e => hn.1 v (e ▸ hm)
      have := ih hn.2 h
      simp only [alook, List.find?_cons, hne, decide_false] at this ⊢
      exact this

/-- what the look at a key finds -/
theorem MapIs.find (h : MapIs E w b es) (k : κ) : ∃ a clock, w.heap[b]? = some (.map a clock) ∧ Stamped a clock ∧ a.toList.map (fun x => (x.key, x.val)) = es.map (fun p => (E.enc p.1, p.2)) ∧
    ((alook es k = none ∧ Instr.findNow E.d (E.enc k) a.toList 0 = some none ∧ ∀ x ∈ a.toList, x.key ≠ E.enc k) ∨
     ∃ j e, alook es k = some e.val ∧ Instr.findNow E.d (E.enc k) a.toList 0 = some (some (j, e.val)) ∧ a[j]? = some e ∧ e.key = E.enc k ∧ es[j]? = some (k, e.val)) := by
  have hn := h.nodup
  obtain ⟨a, c, hb, hs, he⟩ := h
  refine ⟨a, c, hb, hs, he, ?_⟩
  have hk : ∀ x ∈ a.toList, IsKey E.d x.key := fun x hx => by
    obtain ⟨k', e, _⟩ := MapIs.keys he x hx
    rw [e]; exact E.ok _
  rcases findNow_spec (E.ok k) a.toList 0 hk with ⟨h1, h2⟩ | ⟨j, e, h1, h2, h3⟩
  · refine .inl ⟨alook_none fun p hp ee => ?_, h1, h2⟩
    have : (E.enc p.1, p.2) ∈ a.toList.map (fun x => (x.key, x.val)) := he ▸ List.mem_map.2 ⟨p, hp, rfl⟩
    obtain ⟨x, hx, e⟩ := List.mem_map.1 this
    simp at e
    exact h2 x hx (by rw [e.1, ee])
  · right
    have h4 : (a.toList.map (fun x => (x.key, x.val)))[j]? = some (E.enc k, e.val) := by rw [List.getElem?_map, h2]; simp [h3]
    rw [he, List.getElem?_map, Option.map_eq_some_iff] at h4
    obtain ⟨p, hp, e4⟩ := h4
    simp at e4
    obtain ⟨p1, p2⟩ := p
    have e5 := E.inj _ _ e4.1
    simp at e5 e4
    subst e5
    have h5 := e4.2
    subst h5
    exact ⟨j, e, alook_some hn hp, by simpa using h1, by simpa using h2, h3, hp⟩

theorem MapIs.look (h : MapIs E w b es) (ht : P.underlying t = some (.map kt et)) (hk : P.underlying kt = some E.d) {z : Value} (hz : (zeroValue et).run P w = .ok z w) (k : κ) :
    (Instr.lookup t (.map (some b)) (E.enc k) true).run P w = .ok (.tuple #[(alook es k).getD z, .bool (alook es k).isSome]) w := by
  obtain ⟨a, c, hb, hs, he, ⟨h1, h2, _⟩ | ⟨j, e, h1, h2, _⟩⟩ := h.find k
  · simp [Instr.lookup, run_underlying ht, MapKept.run_getObj_map hb, run_checkKey hk (E.ok k), run_findKey hk h2, Result.andThen, h1, hz]
  · simp [Instr.lookup, run_underlying ht, MapKept.run_getObj_map hb, run_checkKey hk (E.ok k), run_findKey hk h2, Result.andThen, h1]
theorem MapIs.look1 (h : MapIs E w b es) (ht : P.underlying t = some (.map kt et)) (hk : P.underlying kt = some E.d) {z : Value} (hz : (zeroValue et).run P w = .ok z w) (k : κ) :
    (Instr.lookup t (.map (some b)) (E.enc k) false).run P w = .ok ((alook es k).getD z) w := by
  obtain ⟨a, c, hb, hs, he, ⟨h1, h2, _⟩ | ⟨j, e, h1, h2, _⟩⟩ := h.find k
  · simp [Instr.lookup, run_underlying ht, MapKept.run_getObj_map hb, run_checkKey hk (E.ok k), run_findKey hk h2, Result.andThen, h1, hz]
  · simp [Instr.lookup, run_underlying ht, MapKept.run_getObj_map hb, run_checkKey hk (E.ok k), run_findKey hk h2, Result.andThen, h1]

theorem ext_setBlock (hb : b < w.heap.size) (o : Obj) : Ext [b] w (setBlock w b o) :=
  ⟨rfl, rfl, rfl, by simp [setBlock], fun k _ hm => by
    have : b ≠ k := fun e => hm (by simp [e])
    simp [setBlock, this]⟩
theorem setBlock_size (o : Obj) : (setBlock w b o).heap.size = w.heap.size := by simp [setBlock]
theorem setBlock_at (hb : b < w.heap.size) (o : Obj) : (setBlock w b o).heap[b]? = some o := by simp [setBlock, hb]

theorem run_keep (k : κ) (w : World) : (Instr.keyThatStays (E.enc k) (E.enc k)).run P w = .ok (E.enc k) w := by
  have h := E.ok k
  unfold Instr.keyThatStays
  have : Instr.sameBits 10000 (E.enc k) (E.enc k) = true := by
    revert h
    generalize E.d = d
    generalize E.enc k = v
    intro h
    cases d <;> cases v <;> simp_all [IsKey, Instr.sameBits]
    exact (bytes_beq _ _).2 rfl
  rw [if_pos this]
  rfl

theorem MapIs.put (h : MapIs E w b es) (ht : P.underlying t = some (.map kt et)) (hk : P.underlying kt = some E.d) (k : κ) (v : Value) :
    ∃ w', (Instr.mapUpdate t (.map (some b)) (E.enc k) v).run P w = .ok () w' ∧ MapIs E w' b (aput es k v) ∧ Ext [b] w w' ∧ w'.heap.size = w.heap.size := by
  have hl := h.lt
  obtain ⟨a, c, hb, hs, he, ⟨h1, h2, h3⟩ | ⟨j, e, h1, h2, h3, h4, h5⟩⟩ := h.find k
  · refine ⟨setBlock w b (.map (a.push ⟨E.enc k, v, c⟩) (c + 1)), ?_, ⟨_, _, setBlock_at hl _, stamped_push hs h3, ?_⟩, ext_setBlock hl _, setBlock_size _⟩
    · simp [Instr.mapUpdate, run_underlying ht, MapKept.run_getObj_map hb, run_checkKey hk (E.ok k), run_findKey hk h2, MapKept.run_setObj_map _ hb, Result.andThen, setBlock]
    · simp [aput, h1, he]
  · have hkeyf : ∀ e', a[j]? = some e' → ({ e' with key := E.enc k, val := v } : MapEntry).key = e'.key := fun e' he' => by rw [h3] at he'; cases he'; exact h4.symm
    refine ⟨setBlock w b (.map (a.modify j (fun e' => { e' with key := E.enc k, val := v })) c), ?_, ⟨_, _, setBlock_at hl _, stamped_modify hs _ _ (fun _ _ => rfl) (fun e' _ he' => hkeyf e' he'), ?_⟩, ext_setBlock hl _, setBlock_size _⟩
    · simp [Instr.mapUpdate, run_underlying ht, MapKept.run_getObj_map hb, run_checkKey hk (E.ok k), run_findKey hk h2, h3, h4, run_keep, MapKept.run_setObj_map _ hb, Result.andThen, setBlock]
    · have hn := (show MapIs E w b es from ⟨a, c, hb, hs, he⟩).nodup
      simp only [aput, h1, Option.isSome_some, if_true, Array.toList_modify, List.map_map]
      apply List.ext_getElem?
      intro i
      have hi : (a.toList.map (fun x => (x.key, x.val)))[i]? = (es.map (fun p => (E.enc p.1, p.2)))[i]? := by rw [he]
      simp only [List.getElem?_map, List.getElem?_modify, Function.comp_def] at hi ⊢
      by_cases hij : j = i
      · subst hij
        simp only [h5] at hi ⊢
        simp [h3]
      · simp only [hij, if_false, Option.map_id_fun, id]
        cases hp : es[i]? with
        | none => simp [hp] at hi ⊢; exact hi
        | some p =>
          have hne : p.1 ≠ k := fun ee => by
            have q1 : (es.map (·.1))[i]? = some k := by simp [hp, ee]
            have q2 : (es.map (·.1))[j]? = some k := by simp [h5]
            have := (List.getElem?_inj (by have := (List.getElem?_eq_some_iff.1 q2).1; exact this) hn).1 (q2.trans q1.symm)
            exact hij this
          simp [hp, hne] at hi ⊢
          exact hi

theorem MapIs.del {ty : TypeId} (h : MapIs E w b es) (ht : P.underlying t = some (.map kt et)) (hk : P.underlying kt = some E.d) (k : κ) :
    ∃ w', (Builtin.delete_ #[t, kt] ty #[.map (some b), E.enc k]).run P w = .ok (.tuple #[]) w' ∧ MapIs E w' b (adel es k) ∧ Ext [b] w w' ∧ w'.heap.size = w.heap.size := by
  have hl := h.lt
  have hn := h.nodup
  obtain ⟨a, c, hb, hs, he, ⟨h1, h2, h3⟩ | ⟨j, e, h1, h2, h3, h4, h5⟩⟩ := h.find k
  · refine ⟨setBlock w b (.map a c), ?_, ⟨_, _, setBlock_at hl _, hs, ?_⟩, ext_setBlock hl _, setBlock_size _⟩
    · simp [Builtin.delete_, run_underlying ht, MapKept.run_getObj_map hb, run_checkKey hk (E.ok k), run_findKey hk h2, MapKept.run_setObj_map _ hb, Result.andThen, setBlock]
    · rw [he]
      congr 1
      refine (List.filter_eq_self.2 fun p hp => ?_).symm
      simp only [ne_eq, decide_not, Bool.not_eq_eq_eq_not, Bool.not_true, decide_eq_false_iff_not]
      intro ee
      have : (E.enc p.1, p.2) ∈ a.toList.map (fun x => (x.key, x.val)) := he ▸ List.mem_map.2 ⟨p, hp, rfl⟩
      obtain ⟨x, hx, e⟩ := List.mem_map.1 this
      simp at e
      exact h3 x hx (by rw [e.1, ee])
  · have hjs : j < a.size := (Array.getElem?_eq_some_iff.1 h3).1
    have hsub : (a.eraseIdxIfInBounds j).toList = a.toList.eraseIdx j := by
      unfold Array.eraseIdxIfInBounds
      rw [dif_pos hjs]
      simp
    refine ⟨setBlock w b (.map (a.eraseIdxIfInBounds j) c), ?_, ⟨_, _, setBlock_at hl _, stamped_erase hs j, ?_⟩, ext_setBlock hl _, setBlock_size _⟩
    · simp [Builtin.delete_, run_underlying ht, MapKept.run_getObj_map hb, run_checkKey hk (E.ok k), run_findKey hk h2, MapKept.run_setObj_map _ hb, Result.andThen, setBlock]
    · rw [hsub, ChangeMaps.map_eraseIdx, he, ← ChangeMaps.map_eraseIdx]
      congr 1
      have := ChangeMaps.filter_eq_eraseIdx (fun p : κ × Value => decide (p.1 = k)) es j (k, e.val) h5 (by simp) (by
        have := List.pairwise_map.1 hn
        exact this.imp fun hne ⟨q1, q2⟩ => hne (by simp at q1 q2; rw [q1, q2]))
      rw [← this]
      simp [adel]

theorem MapIs.clear {ty : TypeId} (h : MapIs E w b es) (ht : P.underlying t = some (.map kt et)) :
    ∃ w', (Builtin.clear_ #[t] ty #[.map (some b)]).run P w = .ok (.tuple #[]) w' ∧ MapIs E w' b [] ∧ Ext [b] w w' ∧ w'.heap.size = w.heap.size := by
  have hl := h.lt
  obtain ⟨a, c, hb, hs, he⟩ := h
  refine ⟨setBlock w b (.map #[] c), ?_, ⟨_, _, setBlock_at hl _, stamped_empty c, rfl⟩, ext_setBlock hl _, setBlock_size _⟩
  simp [Builtin.clear_, run_underlying ht, MapKept.run_getObj_map hb, MapKept.run_setObj_map _ hb, Result.andThen, setBlock]

/-! ### ranging over a map that the loop does not write -/
/-- Block r ranges over the map of block b, whose entries are es; left: those still to come. -/
def Iter (E : KeyEnc κ) (w : World) (r b : Nat) (es left : List (κ × Value)) : Prop :=
  ∃ a clock seen, w.heap[b]? = some (.map a clock) ∧ Stamped a clock ∧ a.toList.map (fun x => (x.key, x.val)) = es.map (fun p => (E.enc p.1, p.2)) ∧
    w.heap[r]? = some (.mapIter (some b) clock seen clock) ∧ (leftOf a seen).toList.map (fun x => (x.key, x.val)) = left.map (fun p => (E.enc p.1, p.2))

theorem Iter.map {r : Nat} {left : List (κ × Value)} (h : Iter E w r b es left) : MapIs E w b es := by
  obtain ⟨a, c, s, h1, h2, h3, _⟩ := h
  exact ⟨a, c, h1, h2, h3⟩
theorem Iter.lt {r : Nat} {left : List (κ × Value)} (h : Iter E w r b es left) : r < w.heap.size := by
  obtain ⟨a, c, s, h1, h2, h3, h4, _⟩ := h
  exact (Array.getElem?_eq_some_iff.1 h4).1
theorem Iter.ne_cells {r : Nat} {left : List (κ × Value)} (h : Iter E w r b es left) (cs : Array Value) (T : TypeId) (fr : Nat × Nat) : w.heap[r]? ≠ some (.cells cs T fr) := by
  obtain ⟨a, c, s, h1, h2, h3, h4, _⟩ := h
  rw [h4]; simp
theorem Iter.ext {r : Nat} {left : List (κ × Value)} {w' : World} {M : List Nat} (h : Iter E w r b es left) (e : Ext M w w') (hb : b ∉ M) (hr : r ∉ M) : Iter E w' r b es left := by
  have hl := h.map.lt
  have hl' := h.lt
  obtain ⟨a, c, s, h1, h2, h3, h4, h5⟩ := h
  exact ⟨a, c, s, (e.block b hl hb).trans h1, h2, h3, (e.block r hl' hr).trans h4, h5⟩

theorem Iter.start (h : MapIs E w b es) (ht : P.underlying t = some (.map kt et)) :
    (Instr.range t (.map (some b))).run P w = .ok (.pointer (some ⟨w.heap.size, 0, none⟩)) (w.alloc (.mapIter (some b) (h.choose_spec.choose) #[] (h.choose_spec.choose))) ∧
      Iter E (w.alloc (.mapIter (some b) (h.choose_spec.choose) #[] (h.choose_spec.choose))) w.heap.size b es es := by
  have hl := h.lt
  have hs := h.choose_spec.choose_spec
  generalize h.choose_spec.choose = c at hs ⊢
  generalize h.choose = a at hs
  obtain ⟨h1, h2, h3⟩ := hs
  refine ⟨run_range_map w t kt et b a c ht h1, a, c, #[], (heap_alloc_old w _ hl).trans h1, h2, h3, heap_alloc_new w _, ?_⟩
  have : (leftOf a #[]) = a := by simp [leftOf]
  rw [this, h3]

theorem leftOf_push (a : Array MapEntry) (seen : Array Nat) (n : Nat) : leftOf a (seen.push n) = (leftOf a seen).filter (fun e => e.born ≠ n) := by
  unfold leftOf
  rw [Array.filter_filter]
  congr 1
  funext e
  simp [Bool.and_comm, Bool.not_or]

theorem Iter.next {r : Nat} {left : List (κ × Value)} (h : Iter E w r b es left) (ty : TypeId) :
    (left = [] ∧ (Instr.next (.pointer (some ⟨r, 0, none⟩)) false ty).run P w = .ok (.tuple #[.bool false]) w) ∨
    ∃ pre k v post w', left = pre ++ (k, v) :: post ∧ (k, v) ∈ es ∧ (Instr.next (.pointer (some ⟨r, 0, none⟩)) false ty).run P w = .ok (.tuple #[.bool true, E.enc k, v]) w' ∧
      (Instr.entry (.pointer (some ⟨r, 0, none⟩))).run P w' = .ok (.tuple #[E.enc k, v]) w' ∧ Iter E w' r b es (pre ++ post) ∧ Ext [r] w w' ∧ w'.heap.size = w.heap.size := by
  have hl := h.lt
  have hbl := h.map.lt
  obtain ⟨a, c, seen, h1, h2, h3, h4, h5⟩ := h
  have hne : b ≠ r := fun e => by subst e; rw [h1] at h4; simp at h4
  rcases run_next_at (P := P) w ty r b c c seen a c h4 h1 h2.1 (Nat.le_refl _) with ⟨h0, hr⟩ | ⟨e, he, w1, hw1, hr⟩
  · left
    refine ⟨?_, hr⟩
    have : (leftOf a seen).toList.length = 0 := by simpa using h0
    have : left.length = 0 := by have := congrArg List.length h5; simp at this; omega
    exact List.eq_nil_of_length_eq_zero this
  · right
    obtain ⟨pre0, post0, hsp⟩ := List.append_of_mem he
    have hw : w1.heap = w.heap ∧ w1.os = w.os ∧ w1.tape = w.tape ∧ w1.output = w.output := by rcases hw1 with rfl | rfl <;> exact ⟨rfl, rfl, rfl, rfl⟩
    rw [hsp] at h5
    simp only [List.map_append, List.map_cons] at h5
    have hmem : e ∈ a.toList := by
      simp [leftOf] at he
      simpa using he.1
    obtain ⟨k, hk1, hk2⟩ := MapIs.keys h3 e hmem
    -- the list of what is left, split alike
    have hlen : pre0.length < left.length := by have := congrArg List.length h5; simp at this; omega
    have hat : (left.map (fun p => (E.enc p.1, p.2)))[pre0.length]? = some (e.key, e.val) := by rw [← h5]; simp
    rw [List.getElem?_map, Option.map_eq_some_iff] at hat
    obtain ⟨p, hp, hpe⟩ := hat
    obtain ⟨p1, p2⟩ := p
    simp at hpe
    have ep : p1 = k := E.inj _ _ (hpe.1.trans hk1)
    subst ep
    have hsplit : left = left.take pre0.length ++ (p1, p2) :: left.drop (pre0.length + 1) := by
      have e1 := List.take_append_drop pre0.length left
      rw [List.drop_eq_getElem_cons hlen] at e1
      rw [List.getElem?_eq_getElem hlen] at hp
      injection hp with hp
      rw [hp] at e1
      exact e1.symm
    have hsz : (setBlock w1 r (.mapIter (some b) c (seen.push e.born) c)).heap.size = w.heap.size := by rw [setBlock_size, hw.1]
    have hx : Ext [r] w (setBlock w1 r (.mapIter (some b) c (seen.push e.born) c)) :=
      ⟨hw.2.1, hw.2.2.1, hw.2.2.2, by omega, fun k' _ hm => by
        have : r ≠ k' := fun e => hm (by simp [e])
        simp [setBlock, this, hw.1]⟩
    have hb' : (setBlock w1 r (.mapIter (some b) c (seen.push e.born) c)).heap[b]? = some (.map a c) := (hx.block b hbl (by simpa using hne)).trans h1
    have hr' : (setBlock w1 r (.mapIter (some b) c (seen.push e.born) c)).heap[r]? = some (.mapIter (some b) c (seen.push e.born) c) := setBlock_at (by rw [hw.1]; exact hl) _
    refine ⟨left.take pre0.length, p1, e.val, left.drop (pre0.length + 1), _, by rw [← hpe.2]; exact hsplit, hk2, by rw [hr, hk1], ?_, ⟨a, c, seen.push e.born, hb', h2, h3, hr', ?_⟩, hx, hsz⟩
    · rw [run_entry_at _ r b c seen a c e hr' hb' hmem h2.2.1, hk1]
    · rw [leftOf_push, Array.toList_filter, hsp]
      have hnd : (pre0 ++ e :: post0).map (·.born) |>.Nodup := by
        rw [← hsp]
        refine (List.Sublist.nodup ?_ h2.2.1)
        unfold leftOf
        rw [Array.toList_filter]
        exact List.filter_sublist.map _
      simp only [List.map_append, List.map_cons, List.nodup_append, List.nodup_cons] at hnd
      have f1 : pre0.filter (fun x => decide (x.born ≠ e.born)) = pre0 := List.filter_eq_self.2 fun x hx => by
        simp only [decide_eq_true_eq]
        exact hnd.2.2 _ (List.mem_map.2 ⟨x, hx, rfl⟩) _ (.head _)
      have f2 : post0.filter (fun x => decide (x.born ≠ e.born)) = post0 := List.filter_eq_self.2 fun x hx => by
        simp only [decide_eq_true_eq]
        intro ee
        exact hnd.2.1.1 (List.mem_map.2 ⟨x, hx, ee⟩)
      rw [List.filter_append, List.filter_cons]
      simp only [ne_eq, not_true_eq_false, decide_false, Bool.false_eq_true, if_false]
      rw [f1, f2, List.map_append, List.map_append, List.map_take, List.map_drop, ← h5]
      have q1 : pre0.length = (pre0.map (fun x => (x.key, x.val))).length := by simp
      rw [q1, List.take_left, ← List.drop_drop, List.drop_left' rfl]
      rfl
end
end Go.Proofs.YtbbfgbkbdhghbaaGreatDoor

set_option linter.unusedVariables false
set_option linter.unusedSimpArgs false
set_option linter.unusedSectionVars false
namespace Go.Proofs.YtbbfgbkbdhghbaaGreatDoor
open Go.RowKit

/-- the row of a type in the program's table -/
def TRow (P : Program) (e : TypeId) (z : Value) (k bytes : Nat) : Prop := (P.info? e).map (fun i => (i.zero, i.size, i.bytes)) = some (some z, k, bytes) ∧ z.cells.size = k

section
variable {P : Program} {ops : Array Oper} {rest : List Oper} {o : Oper} {a : Act} {Q : Exit → Act → World → Prop} {w : World}

theorem TRow.parts {e : TypeId} {z : Value} {k bytes : Nat} (h : TRow P e z k bytes) : ∃ i, P.info? e = some i ∧ i.zero = some z ∧ i.size = k ∧ i.bytes = bytes ∧ z.cells.size = k := by
  obtain ⟨h, hz⟩ := h
  obtain ⟨i, hi, he⟩ := Option.map_eq_some_iff.1 h
  simp only [Prod.mk.injEq] at he
  exact ⟨i, hi, he.1, he.2.1, he.2.2, hz⟩

theorem add_off (b off j : Nat) : (⟨b, off, none⟩ : Addr).add j = ⟨b, off + j, none⟩ := by unfold Addr.add; split <;> simp_all

theorem Sl.cells_add {T : TypeId} {b off n c : Nat} {xs : List Value} (h : Row w T b off xs) : ∀ j u, xs[j]? = some u → w.cell? ((⟨b, off, none⟩ : Addr).add j) = some u := by
  intro j u hj
  rw [add_off]
  exact h.cell hj

theorem own_size {base e k n : Nat} {v : Value} {xs : List Value} (h : w.ownsRow base e k v n xs) : ∃ p c, v = .slice p n c ∧ n ≤ c ∧ c ≤ 9223372036854775807 := by
  obtain ⟨_, ⟨rfl, rfl⟩ | ⟨g, cap, cur, rfl, _, _, h1, h2, _⟩⟩ := h
  · exact ⟨none, 0, rfl, Nat.le_refl _, by omega⟩
  · exact ⟨_, cap, rfl, h1, by unfold maxLen at h2; omega⟩

/-- nothing is appended -/
theorem run_append_zero (t ty e : TypeId) (i : TypeInfo) (ht : P.underlying t = some (.slice e)) (hi : P.info? e = some i) (p q : Option Addr) (n c c' : Nat) (hn : n ≤ c) (w : World) {k : Nat} (hsz : i.size = k)
    (hq : q = none ∨ True) : (Builtin.append_ #[t, t] ty #[.slice p n c, .slice q 0 c']).run P w = .ok (.slice p n c) w := by
  have h0 : (Builtin.firstCells i.size 0 (.slice q 0 c')).run P w = .ok #[] w := by
    cases q <;> simp [Builtin.firstCells, loadCells, loadCellsFrom]
  cases p with
  | none => simp [Builtin.append_, run_underlying ht, sizeOf, typeInfo, hi, Builtin.lenOf, hn, h0]
  | some a => simp [Builtin.append_, run_underlying ht, sizeOf, typeInfo, hi, Builtin.lenOf, hn, h0, storeCells]

theorem wp_append (hgd : o.guard = none) (s x : Operand) (t : TypeId) (ho : o.op = .call { callee := .builtin .append, args := #[s, x], argTypes := #[t, t] })
    (base e : TypeId) (z : Value) (k bytes : Nat) (ht : P.underlying t = some (.slice e)) (hr : TRow P e z k bytes) (hk : 0 < k)
    (v : Value) (n : Nat) (xs : List Value) (hs : a.eval s = v) (hown : w.ownsRow base e k v n xs)
    (T : TypeId) (sv : Value) (m : Nat) (ys : List Value) (hx : a.eval x = sv) (hsl : Sl w T sv m ys) (hl : ys.length = m * k) (h1 : ∀ u ∈ ys, u.oneCell' = true)
    (hn : (n + m) * bytes ≤ 140737488355328) (h63 : n + m ≤ 9223372036854775807) (hbase : base ≤ w.heap.size)
    (h : ∀ v' w', w'.ownsRow base e k v' (n + m) (xs ++ ys) → w.grownBy w' v.ownBlock → (v'.ownBlock = v.ownBlock ∨ v'.ownBlock = some w.heap.size) → wpList P ops Q rest (a.put o.dst v') w') :
    wpList P ops Q (o :: rest) a w := by
  obtain ⟨i, hi, hz, hsz, hby, hzs⟩ := hr.parts
  rcases Nat.eq_zero_or_pos m with rfl | hm
  · obtain ⟨p', c', rfl, _, _⟩ := hsl.shape
    obtain ⟨p, c, hv, hnc, _⟩ := own_size hown
    have hy : ys = [] := List.eq_nil_of_length_eq_zero (by simpa using hl)
    subst hy
    refine wpList_plain hgd fun K hK => ?_
    have hrun := run_append_zero (P := P) (k := k) t o.type e i ht hi p p' n c c' hnc w hsz (.inr trivial)
    rw [← hv] at hrun
    unfold Oper.wp execOp
    simp only [ho, resolve, invoke, builtin, Sem.run_bind, Sem.run_pure, Result.andThen_ok, List.map_toArray, List.map_cons, List.map_nil, hs, hx, hrun]
    exact hK _ _ (h v w (by simpa using hown) ⟨rfl, rfl, rfl, Nat.le_refl _, fun _ _ _ => rfl⟩ (.inl rfl))
  · obtain ⟨b, off, c, rfl, hrow⟩ := hsl.at hm
    exact wpList_append_own_at w hgd s x t ho base e i z k bytes ht hi hz hsz hby hzs hk v n xs hs hown ⟨b, off, none⟩ m c ys hx hl (Sl.cells_add (n := 0) (c := 0) hrow) h1 (by unfold maxLen; omega) hn hbase
      fun v' w' a1 a2 _ a4 => h v' w' a1 a2 a4

/-- copy(dst, src), dst one's own -/
theorem wp_copy (hgd : o.guard = none) (d s : Operand) (dT sT : TypeId) (ho : o.op = .call { callee := .builtin .copy, args := #[d, s], argTypes := #[dT, sT] })
    (e : TypeId) (hu : P.underlying dT = some (.slice e)) (hsz : (P.info? e).map (·.size) = some 1)
    (base : Nat) (v : Value) (n : Nat) (xs : List Value) (hd : a.eval d = v) (hown : w.ownsRow base e 1 v n xs)
    (T : TypeId) (sv : Value) (m : Nat) (ys : List Value) (hs : a.eval s = sv) (hsl : Sl w T sv m ys) (hl : ys.length = m) (h1 : ∀ u ∈ ys, u.oneCell' = true)
    (h : ∀ w', w'.ownsRow base e 1 v n (ys.take n ++ xs.drop m) → w.grownBy w' v.ownBlock → wpList P ops Q rest (a.put o.dst (goInt (Nat.min m n : Nat))) w') :
    wpList P ops Q (o :: rest) a w := by
  have hxl := hown.1
  rw [Nat.mul_one] at hxl
  rcases Nat.eq_zero_or_pos (Nat.min m n) with h0 | hpos
  · obtain ⟨p', c', rfl, _, _⟩ := hsl.shape
    obtain ⟨p, c, rfl, _, _⟩ := own_size hown
    refine wpList_copy_nothing hgd d s dT sT ho e hu hsz p p' n c m c' hd hs h0 ?_
    have e1 : ys.take n ++ xs.drop m = xs := by
      rcases Nat.eq_zero_or_pos m with rfl | hm
      · have : ys = [] := List.eq_nil_of_length_eq_zero hl
        subst this; simp
      · have : n = 0 := by
          have := h0; simp only [Nat.min_def] at this; split at this <;> omega
        subst this
        have : xs = [] := List.eq_nil_of_length_eq_zero hxl
        subst this; simp
    have := h w (by rw [e1]; exact hown) ⟨rfl, rfl, rfl, Nat.le_refl _, fun _ _ _ => rfl⟩
    rwa [h0] at this
  · have hm : 0 < m := by have := hpos; simp only [Nat.min_def] at this; split at this <;> omega
    have hnp : 0 < n := by have := hpos; simp only [Nat.min_def] at this; split at this <;> omega
    obtain ⟨b, off, c, rfl, hrow⟩ := hsl.at hm
    obtain ⟨hlen, ⟨rfl, h0⟩ | ⟨g, cap, cur, rfl, hbg, hg, hnc, hcm, hcs, htake⟩⟩ := hown
    · omega
    have hcl : (ys.take n).length = Nat.min m n := by rw [List.length_take, hl, Nat.min_comm]
    have hmn : Nat.min m n ≤ n := Nat.min_le_right _ _
    refine wpList_copy_own hgd d s dT sT ho e hu hsz g 0 n cap ⟨b, off, none⟩ m c hd hs cur e hg (ys.take n) hcl (fun j u hj => ?_) (by omega) (fun u hu => h1 u (List.mem_of_mem_take hu)) ?_
    · refine Sl.cells_add (n := 0) (c := 0) hrow j u ?_
      rw [List.getElem?_take] at hj
      split at hj
      · exact hj
      · simp at hj
    · rw [hcl]
      simp only [List.take_zero, List.nil_append, Nat.zero_add]
      refine h _ ⟨?_, .inr ⟨g, cap, _, rfl, hbg, setRow_heap w g _ _ e _ hg, hnc, hcm, ?_, ?_⟩⟩ ⟨rfl, rfl, rfl, by simp [World.setRow], fun k hk hne => setRow_other w g k _ (fun e => hne (by simp [Value.ownBlock, e]))⟩
      · rw [List.length_append, hcl, List.length_drop, hxl, Nat.mul_one]
        have : Nat.min m n = min m n := rfl
        omega
      · have : Nat.min m n = min m n := rfl
        simp only [List.size_toArray, List.length_append, hcl, List.length_drop, Array.length_toList]
        omega
      · have hmin : Nat.min m n = min m n := rfl
        simp only [Nat.mul_one] at htake ⊢
        rw [List.take_append, List.take_of_length_le (by omega)]
        congr 1
        rw [hcl, ← htake, List.drop_take, List.take_drop, List.take_drop]
        rcases Nat.le_total m n with hle | hle
        · have : Nat.min m n = m := Nat.min_eq_left hle
          rw [this]
        · have : Nat.min m n = n := Nat.min_eq_right hle
          rw [this, Nat.sub_self, Nat.add_zero]
          have e2 : m + (n - m) = m := by omega
          rw [e2]
          simp [List.drop_eq_nil_of_le, hle]

/-- the cells of a new row (a name of its own: simp doesn't look into it) -/
def zeroRow (z : Value) (k n : Nat) : Array Value := madeCells z.cells (n * k)
/-- make([]T, n, c) -/
theorem run_mk {t e : TypeId} {z : Value} {k bytes : Nat} (ht : P.underlying t = some (.slice e)) (hr : TRow P e z k bytes) (n c : Nat) (hnc : n ≤ c) (hb : c * bytes ≤ 281474976710656) (h63 : c ≤ 9223372036854775807) (W : World) :
    (Instr.makeSlice t (.int .i64 (n : Int)) (.int .i64 (c : Int))).run P W = .ok (.slice (some ⟨W.heap.size, 0, none⟩) n c) (W.alloc (.cells (zeroRow z k c) e)) := by
  obtain ⟨i, hi, hz, hsz, hby, hzs⟩ := hr.parts
  have h := run_make (P := P) W t e i z ht hi hz .i64 .i64 (n : Int) (c : Int) (by omega) (by omega) (by
    have : ((i.bytes * c : Nat) : Int) ≤ 281474976710656 := by rw [hby, Nat.mul_comm]; omega
    rwa [Int.natCast_mul] at this) (by omega)
  simp only [Int.toNat_natCast, hsz] at h
  exact h
theorem madeCells_one (z : Value) (n : Nat) : (madeCells #[z] n).toList = List.replicate n z := by
  apply List.ext_getElem?
  intro i
  simp only [madeCells, Array.toList_map, List.getElem?_map, Array.getElem?_toList, List.getElem?_replicate]
  by_cases hi : i < n
  · simp [hi, Nat.mod_one]
  · simp [hi]
theorem own_mk {base e : TypeId} {z : Value} (h1 : z.cells = #[z]) (n c : Nat) (hnc : n ≤ c) (h63 : c ≤ 9223372036854775807) (W : World) (hb : base ≤ W.heap.size) :
    (W.alloc (.cells (zeroRow z 1 c) e)).ownsRow base e 1 (.slice (some ⟨W.heap.size, 0, none⟩) n c) n (List.replicate n z) := by
  refine ⟨by simp, .inr ⟨W.heap.size, c, _, rfl, hb, heap_alloc_new W _, hnc, by unfold maxLen; omega, by rw [zeroRow, size_madeCells], ?_⟩⟩
  rw [zeroRow, h1, madeCells_one, Nat.mul_one, Nat.mul_one, List.take_replicate]
  congr 1
  omega

/-- a literal's row -/
theorem own_lit (base e k : Nat) (cs : Array Value) (n : Nat) (hs : cs.size = n * k) (W : World) (hb : base ≤ W.heap.size) (h63 : n ≤ 9223372036854775807) :
    (W.alloc (.cells cs e)).ownsRow base e k (.slice (some ⟨W.heap.size, 0, none⟩) n n) n cs.toList := by
  refine ⟨by simpa using hs, .inr ⟨W.heap.size, n, cs, rfl, hb, heap_alloc_new W _, Nat.le_refl _, by unfold maxLen; omega, hs, ?_⟩⟩
  rw [List.take_of_length_le]
  simp [hs]
theorem Sl.lit (e k : Nat) (cs : Array Value) (n : Nat) (hk : 0 < k) (hs : cs.size = n * k) (W : World) (h63 : n ≤ 9223372036854775807) :
    Sl (W.alloc (.cells cs e)) e (.slice (some ⟨W.heap.size, 0, none⟩) n n) n cs.toList := Sl.of_own (own_lit W.heap.size e k cs n hs W (Nat.le_refl _) h63) hk

theorem own_nil (W : World) (base e k : Nat) : W.ownsRow base e k (.slice none 0 0) 0 [] := World.ownsRow_nil W base e k
/-- what one owns lies where it does -/
theorem own_fresh {base e k n : Nat} {v : Value} {xs : List Value} (h : w.ownsRow base e k v n xs) : ∀ b, v.ownBlock = some b → base ≤ b := fun b hb => (h.lt b hb).1
theorem own_ext {base e k n : Nat} {v : Value} {xs : List Value} {M : List Nat} {w' : World} (h : w.ownsRow base e k v n xs) (x : Ext M w w') (hm : ∀ b, v.ownBlock = some b → b ∉ M) : w'.ownsRow base e k v n xs := by
  refine ⟨h.1, ?_⟩
  rcases h.2 with hn | ⟨g, cap, cur, rfl, hb, hg, r⟩
  · exact .inl hn
  · exact .inr ⟨g, cap, cur, rfl, hb, (x.block g (Array.getElem?_eq_some_iff.1 hg).1 (hm g rfl)).trans hg, r⟩
theorem own_then {base e k n : Nat} {v : Value} {xs : List Value} {w' : World} (h : w.ownsRow base e k v n xs) (x : Ext [] w w') : w'.ownsRow base e k v n xs := own_ext h x (by simp)
theorem own_rebase {base base' e k n : Nat} {v : Value} {xs : List Value} (h : w.ownsRow base e k v n xs) (hb : ∀ b, v.ownBlock = some b → base' ≤ b) : w.ownsRow base' e k v n xs := by
  refine ⟨h.1, ?_⟩
  rcases h.2 with hn | ⟨g, cap, cur, rfl, hb', hg, r⟩
  · exact .inl hn
  · exact .inr ⟨g, cap, cur, rfl, hb g rfl, hg, r⟩
/-- a read slice while another row of another type is written -/
theorem Sl.grown {T e base k n m : Nat} {v sv : Value} {xs ys : List Value} {w' : World} (h : Sl w T sv m ys) (hown : w.ownsRow base e k v n xs) (hg : w.grownBy w' v.ownBlock) (hne : T ≠ e) : Sl w' T sv m ys := by
  have x : Ext v.ownBlock.toList w w' := (Ext.refl _ w).grown hg (fun k hk _ => by simp [hk])
  refine h.ext x fun b hb cs fr hh => ?_
  obtain ⟨_, ⟨rfl, _⟩ | ⟨g, cap, cur, rfl, _, hg', _⟩⟩ := hown
  · simp [Value.ownBlock] at hb
  · simp [Value.ownBlock] at hb
    subst hb
    rw [hg'] at hh
    injection hh with hh
    injection hh with _ hh _
    exact hne hh.symm
/-- a read slice that lies below what is written -/
theorem Sl.grown_below {T m B : Nat} {v sv : Value} {ys : List Value} {w' : World} (h : Sl w T sv m ys) (hg : w.grownBy w' v.ownBlock) (hlt : ∀ b, sv.ownBlock = some b → b < B) (hb : ∀ b, v.ownBlock = some b → B ≤ b) : Sl w' T sv m ys := by
  obtain ⟨p, c, rfl, h1, h2, h | ⟨hn, b, off, rfl, h⟩⟩ := h
  · exact ⟨p, c, rfl, h1, h2, .inl h⟩
  · refine ⟨_, c, rfl, h1, h2, .inr ⟨hn, b, off, rfl, ?_⟩⟩
    have x : Ext v.ownBlock.toList w w' := (Ext.refl _ w).grown hg (fun k hk _ => by simp [hk])
    refine h.ext x fun hm => ?_
    have := hlt b rfl
    have := hb b (by simpa using hm)
    omega

/-! ### the laws as the walk meets them: the operation written out; what is evaluated comes last -/
section
variable {d : Option Tmp} {x y : Tmp} {t ty : TypeId} {pos : String} {after : Array Edge}

/-- append(own, read...) -/
theorem app {base e k bytes : Nat} {z : Value} (ht : P.underlying t = some (.slice e)) (hr : TRow P e z k bytes) (hk : 0 < k)
    {v : Value} {n : Nat} {xs : List Value} (hown : w.ownsRow base e k v n xs) {T : TypeId} {sv : Value} {m : Nat} {ys : List Value} (hsl : Sl w T sv m ys)
    (hl : ys.length = m * k) (h1 : ∀ u ∈ ys, u.oneCell' = true) (hn : (n + m) * bytes ≤ 140737488355328) (h63 : n + m ≤ 9223372036854775807) (hbase : base ≤ w.heap.size)
    (hs : a.eval (.tmp x) = v) (hx : a.eval (.tmp y) = sv)
    (h : ∀ v' w', w'.ownsRow base e k v' (n + m) (xs ++ ys) → w.grownBy w' v.ownBlock → (v'.ownBlock = v.ownBlock ∨ v'.ownBlock = some w.heap.size) → wpList P ops Q rest (a.put d v') w') :
    wpList P ops Q (⟨d, .call ⟨.builtin .append, #[.tmp x, .tmp y], #[t, t]⟩, ty, pos, after, none⟩ :: rest) a w :=
  wp_append rfl (.tmp x) (.tmp y) t rfl base e z k bytes ht hr hk v n xs hs hown T sv m ys hx hsl hl h1 hn h63 hbase h

/-- append(own, x) of one element, which has just been laid -/
theorem app1 {base e k bytes : Nat} {z : Value} {W : World} {cs : Array Value} (ht : P.underlying t = some (.slice e)) (hr : TRow P e z k bytes) (hk : 0 < k)
    {v : Value} {n : Nat} {xs : List Value} (hown : W.ownsRow base e k v n xs)
    (hl : cs.size = k) (h1 : ∀ u ∈ cs.toList, u.oneCell' = true) (hn : (n + 1) * bytes ≤ 140737488355328) (h63 : n + 1 ≤ 9223372036854775807) (hbase : base ≤ W.heap.size)
    (hs : a.eval (.tmp x) = v) (hx : a.eval (.tmp y) = .slice (some ⟨W.heap.size, 0, none⟩) 1 1)
    (h : ∀ v' w', w'.ownsRow base e k v' (n + 1) (xs ++ cs.toList) → Ext v.ownBlock.toList W w' → (v'.ownBlock = v.ownBlock ∨ ∃ b, v'.ownBlock = some b ∧ W.heap.size ≤ b) → wpList P ops Q rest (a.put d v') w') :
    wpList P ops Q (⟨d, .call ⟨.builtin .append, #[.tmp x, .tmp y], #[t, t]⟩, ty, pos, after, none⟩ :: rest) a (W.alloc (.cells cs e)) := by
  refine app ht hr hk (hown.alloc _) (Sl.lit e k cs 1 hk (by omega) W (by omega)) (by simp [hl]) h1 hn h63 (by simp; omega) hs hx ?_
  intro v' w' a1 a2 a3
  refine h v' w' a1 ?_ ?_
  · exact ((Ext.refl _ W).alloc _).grown a2 (fun k hk _ => by simp [hk])
  · rcases a3 with a3 | a3
    · exact .inl a3
    · exact .inr ⟨_, a3, by simp⟩

/-- copy(own, read) -/
theorem cp {base e : Nat} {dT sT : TypeId} (hu : P.underlying dT = some (.slice e)) (hsz : (P.info? e).map (·.size) = some 1)
    {v : Value} {n : Nat} {xs : List Value} (hown : w.ownsRow base e 1 v n xs) {T : TypeId} {sv : Value} {m : Nat} {ys : List Value} (hsl : Sl w T sv m ys) (hl : ys.length = m) (h1 : ∀ u ∈ ys, u.oneCell' = true)
    (hd : a.eval (.tmp x) = v) (hs : a.eval (.tmp y) = sv)
    (h : ∀ w', w'.ownsRow base e 1 v n (ys.take n ++ xs.drop m) → Ext v.ownBlock.toList w w' → wpList P ops Q rest (a.put d (goInt (Nat.min m n : Nat))) w') :
    wpList P ops Q (⟨d, .call ⟨.builtin .copy, #[.tmp x, .tmp y], #[dT, sT]⟩, ty, pos, after, none⟩ :: rest) a w :=
  wp_copy rfl (.tmp x) (.tmp y) dT sT rfl e hu hsz base v n xs hd hown T sv m ys hs hsl hl h1 fun w' a1 a2 => h w' a1 ((Ext.refl _ w).grown a2 (fun k hk _ => by simp [hk]))
end

theorem bv_one (l : List UInt8) : ∀ u ∈ l.map bv, u.oneCell' = true := by
  intro u hu
  obtain ⟨b, _, rfl⟩ := List.mem_map.1 hu
  rfl
variable {d : Option Tmp} {y : Tmp} {t ty : TypeId} {pos : String} {after : Array Edge}
/-- append(nil, read...) -/
theorem app0 {base e k bytes : Nat} {z : Value} (ht : P.underlying t = some (.slice e)) (hr : TRow P e z k bytes) (hk : 0 < k)
    {T : TypeId} {sv : Value} {m : Nat} {ys : List Value} (hsl : Sl w T sv m ys)
    (hl : ys.length = m * k) (h1 : ∀ u ∈ ys, u.oneCell' = true) (hn : m * bytes ≤ 140737488355328) (h63 : m ≤ 9223372036854775807) (hbase : base ≤ w.heap.size)
    (hx : a.eval (.tmp y) = sv)
    (h : ∀ v' w', w'.ownsRow base e k v' m ys → Ext [] w w' → (∀ b, v'.ownBlock = some b → w.heap.size ≤ b) → wpList P ops Q rest (a.put d v') w') :
    wpList P ops Q (⟨d, .call ⟨.builtin .append, #[.const (.slice none 0 0), .tmp y], #[t, t]⟩, ty, pos, after, none⟩ :: rest) a w :=
  wp_append rfl (.const (.slice none 0 0)) (.tmp y) t rfl base e z k bytes ht hr hk (.slice none 0 0) 0 [] rfl (own_nil _ _ _ _) T sv m ys hx hsl hl h1 (by rw [Nat.zero_add]; exact hn) (by omega) hbase fun v' w' a1 a2 a3 =>
    h v' w' (by simpa using a1) ((Ext.refl [] w).grown a2 (by simp [Value.ownBlock])) (fun b hb => by
      rcases a3 with a3 | a3
      · rw [hb] at a3; simp [Value.ownBlock] at a3
      · rw [hb] at a3; injection a3 with a3; omega)
end
end Go.Proofs.YtbbfgbkbdhghbaaGreatDoor

set_option linter.unusedVariables false
set_option linter.unusedSimpArgs false
namespace Go.Proofs.YtbbfgbkbdhghbaaGreatDoor

abbrev Bytes := List UInt8
abbrev Tbl := List (Bytes × Bytes)

theorem blt_irrefl (a : Bytes) : ¬ a < a := List.lt_irrefl a
theorem blt_trans {a b c : Bytes} (h : a < b) (h' : b < c) : a < c := List.lt_trans h h'
theorem blt_asymm {a b : Bytes} (h : a < b) : ¬ b < a := fun h' => blt_irrefl a (blt_trans h h')
theorem blt_total {a b : Bytes} (h : ¬ a < b) (h' : ¬ b < a) : a = b := by
  exact List.le_antisymm (List.not_lt.1 h') (List.not_lt.1 h)
theorem blt_ne {a b : Bytes} (h : a < b) : a ≠ b := fun e => blt_irrefl b (e ▸ h)

def tget (T : Tbl) (k : Bytes) : Option Bytes := (T.find? (fun p => p.1 = k)).map (·.2)
def tput : Tbl → Bytes → Bytes → Tbl
  | [], k, v => [(k, v)]
  | p :: T, k, v => if p.1 < k then p :: tput T k v else if p.1 = k then (k, v) :: T else (k, v) :: p :: T
def tdel (T : Tbl) (k : Bytes) : Tbl := T.filter (fun p => p.1 ≠ k)
def tscan (T : Tbl) (p : Bytes) : Tbl := T.filter (fun q => p.isPrefixOf q.1)
def Sorted (T : Tbl) : Prop := T.Pairwise (fun a b => a.1 < b.1)

theorem tget_nil (k : Bytes) : tget [] k = none := rfl
theorem tget_cons (p : Bytes × Bytes) (T : Tbl) (k : Bytes) : tget (p :: T) k = if p.1 = k then some p.2 else tget T k := by
  unfold tget
  by_cases h : p.1 = k <;> simp [List.find?_cons, h]

theorem tget_none {T : Tbl} {k : Bytes} (h : ∀ p ∈ T, p.1 ≠ k) : tget T k = none := by
  simp only [tget, Option.map_eq_none_iff, List.find?_eq_none]
  intro p hp
  simpa using h p hp
theorem tget_none_iff {T : Tbl} {k : Bytes} : tget T k = none ↔ ∀ p ∈ T, p.1 ≠ k := by
  simp only [tget, Option.map_eq_none_iff, List.find?_eq_none]
  constructor
  · intro h p hp; simpa using h p hp
  · intro h p hp; simpa using h p hp
theorem tget_mem {T : Tbl} {k v : Bytes} (h : tget T k = some v) : (k, v) ∈ T := by
  simp only [tget, Option.map_eq_some_iff] at h
  obtain ⟨p, hp, e⟩ := h
  have h1 := List.find?_some hp
  have h2 := List.mem_of_find?_eq_some hp
  simp at h1
  rw [← e, ← h1]
  exact h2

theorem Sorted.nil : Sorted [] := List.Pairwise.nil
theorem Sorted.nodup {T : Tbl} (h : Sorted T) : (T.map (·.1)).Nodup := List.pairwise_map.2 (h.imp fun h => blt_ne h)
theorem tget_of_mem {T : Tbl} (h : (T.map (·.1)).Nodup) {k v : Bytes} (hm : (k, v) ∈ T) : tget T k = some v := by
  induction T with
  | nil => simp at hm
  | cons p T ih =>
    simp only [List.map_cons, List.nodup_cons] at h
    rw [tget_cons]
    rcases List.mem_cons.1 hm with rfl | hm
    · simp
    · rw [if_neg (fun e => h.1 (List.mem_map.2 ⟨_, hm, e.symm⟩)), ih h.2 hm]
theorem Sorted.mem_iff {T : Tbl} (h : Sorted T) {k v : Bytes} : (k, v) ∈ T ↔ tget T k = some v := ⟨tget_of_mem h.nodup, tget_mem⟩

theorem mem_tput {T : Tbl} {k v : Bytes} {q : Bytes × Bytes} (h : q ∈ tput T k v) : q = (k, v) ∨ q ∈ T := by
  induction T with
  | nil => simpa [tput] using h
  | cons p T ih =>
    simp only [tput] at h
    split at h
    · rcases List.mem_cons.1 h with rfl | h
      · exact .inr (.head _)
      · exact (ih h).imp id (.tail _)
    · split at h
      · rcases List.mem_cons.1 h with rfl | h
        · exact .inl rfl
        · exact .inr (.tail _ h)
      · rcases List.mem_cons.1 h with rfl | h
        · exact .inl rfl
        · exact .inr h

theorem Sorted.tput {T : Tbl} (h : Sorted T) (k v : Bytes) : Sorted (tput T k v) := by
  induction T with
  | nil => simp [Go.Proofs.YtbbfgbkbdhghbaaGreatDoor.tput, Sorted]
  | cons p T ih =>
    unfold Sorted at h ih ⊢
    have hp := List.pairwise_cons.1 h
    simp only [Go.Proofs.YtbbfgbkbdhghbaaGreatDoor.tput]
    split
    · rename_i hlt
      refine List.pairwise_cons.2 ⟨fun q hq => ?_, ih hp.2⟩
      rcases mem_tput hq with rfl | hq
      · exact hlt
      · exact hp.1 q hq
    · split
      · rename_i e
        refine List.pairwise_cons.2 ⟨fun q hq => ?_, hp.2⟩
        have := hp.1 q hq
        rwa [e] at this
      · rename_i h1 h2
        have hk : k < p.1 := by
          by_cases hh : k < p.1
          · exact hh
          · exact absurd (blt_total h1 hh) h2
        refine List.pairwise_cons.2 ⟨fun q hq => ?_, h⟩
        rcases List.mem_cons.1 hq with rfl | hq
        · exact hk
        · exact blt_trans hk (hp.1 q hq)

theorem tget_tput {T : Tbl} (h : Sorted T) (k v k' : Bytes) : tget (tput T k v) k' = if k = k' then some v else tget T k' := by
  induction T with
  | nil => simp [tput, tget_cons, tget_nil]
  | cons p T ih =>
    have hp := List.pairwise_cons.1 h
    simp only [tput]
    split
    · rename_i hlt
      rw [tget_cons, ih hp.2, tget_cons]
      by_cases e : p.1 = k'
      · have : k ≠ k' := fun e' => blt_irrefl k (by rw [← e'] at e; rw [e] at hlt; exact hlt)
        simp [e, this]
      · simp [e]
    · split
      · rename_i e
        rw [tget_cons, tget_cons]
        subst e
        by_cases e : p.1 = k' <;> simp [e]
      · rw [tget_cons]

theorem Sorted.tdel {T : Tbl} (h : Sorted T) (k : Bytes) : Sorted (tdel T k) := List.Pairwise.filter _ h
theorem tget_tdel (T : Tbl) (k k' : Bytes) : tget (tdel T k) k' = if k = k' then none else tget T k' := by
  induction T with
  | nil => simp [tdel, tget_nil]
  | cons p T ih =>
    simp only [tdel, List.filter_cons] at ih ⊢
    by_cases e : p.1 = k
    · simp only [e, ne_eq, not_true_eq_false, decide_false, Bool.false_eq_true, if_false]
      rw [ih, tget_cons, e]
      by_cases e' : k = k' <;> simp [e']
    · simp only [ne_eq, e, not_false_eq_true, decide_true, if_true]
      rw [tget_cons, ih, tget_cons]
      by_cases e' : k = k'
      · have : p.1 ≠ k' := fun e2 => e (e2.trans e'.symm)
        simp [e', this]
      · simp [e']

theorem Sorted.tscan {T : Tbl} (h : Sorted T) (p : Bytes) : Sorted (tscan T p) := List.Pairwise.filter _ h

theorem Sorted.nd {T : Tbl} (h : Sorted T) : T.Nodup := List.Pairwise.imp (S := fun (a b : Bytes × Bytes) => a ≠ b) (fun h e => blt_ne h (by rw [e])) h
theorem Sorted.perm_eq {A B : Tbl} (hp : A.Perm B) (ha : Sorted A) (hb : Sorted B) : A = B := by
  exact List.Perm.eq_of_pairwise (le := fun (a b : Bytes × Bytes) => a.1 < b.1) (fun a b _ _ h1 h2 => absurd h2 (blt_asymm h1)) ha hb hp

theorem Sorted.ext {A B : Tbl} (ha : Sorted A) (hb : Sorted B) (h : ∀ k, tget A k = tget B k) : A = B := by
  refine Sorted.perm_eq ?_ ha hb
  have na : A.Nodup := ha.nd
  have nb : B.Nodup := hb.nd
  rw [List.perm_ext_iff_of_nodup na nb]
  rintro ⟨k, v⟩
  rw [ha.mem_iff, hb.mem_iff, h]

/-- Whatever lists the pairs with a prefix, each once, is, in order, the scan. -/
theorem tscan_of_perm {T L S : Tbl} {p : Bytes} (hT : Sorted T) (hp : S.Perm L) (hS : Sorted S) (hnd : L.Nodup) (hL : ∀ k v, (k, v) ∈ L ↔ tget T k = some v ∧ p.isPrefixOf k = true) : S = tscan T p := by
  refine Sorted.perm_eq (hp.trans ?_) hS (hT.tscan p)
  have nb := (hT.tscan p).nd
  rw [List.perm_ext_iff_of_nodup hnd nb]
  rintro ⟨k, v⟩
  rw [hL, Go.Proofs.YtbbfgbkbdhghbaaGreatDoor.tscan, List.mem_filter, hT.mem_iff]

/-- A list of pairs, each key once, is sorted behind a sort that may not part equals. -/
theorem sorted_of_le {S : Tbl} (h : S.Pairwise (fun a b => ¬ b.1 < a.1)) (hn : (S.map (·.1)).Nodup) : Sorted S := by
  have := List.pairwise_map.1 hn
  refine List.Pairwise.imp (R := fun (a b : Bytes × Bytes) => ¬ b.1 < a.1 ∧ a.1 ≠ b.1) (fun {a b} h => ?_) (h.and this)
  by_cases hh : a.1 < b.1
  · exact hh
  · exact absurd (blt_total hh h.1) h.2
theorem filterMap_take {α β : Type} {f : α → Option β} {L : List α} {i : Nat} (h : i < L.length) : (L.take (i + 1)).filterMap f = (L.take i).filterMap f ++ (f L[i]).toList := by
  rw [List.take_succ_eq_append_getElem h, List.filterMap_append]
  have : [L[i]].filterMap f = (f L[i]).toList := by cases hf : f L[i] <;> simp [hf]
  rw [this]
end Go.Proofs.YtbbfgbkbdhghbaaGreatDoor

set_option linter.unusedVariables false
set_option linter.unusedSimpArgs false
namespace Go.Proofs.YtbbfgbkbdhghbaaGreatDoor
open Go.RowKit

theorem ret_bool {a b : Bool} (h : a = b) : Ending.returned (.bool a) = .returned (.bool b) := by rw [h]
theorem ret_int {k : IntKind} {a b : Int} (h : a = b) : Ending.returned (.int k a) = .returned (.int k b) := by rw [h]

/-! the rows of some types, which literals and slices are of -/
theorem row_u8 : TRow Tryz.prog 5 (.int .u8 0) 1 1 := ⟨by kernel_rfl, rfl⟩
theorem row_int : TRow Tryz.prog 3 (.int .i64 0) 1 8 := ⟨by kernel_rfl, rfl⟩

/-- a new slice of bytes, or ints: written by this call alone, and by nobody else yet -/
def NewB (w w' : World) (r : Value) (l : Bytes) : Prop := w'.ownsRow w.heap.size 5 1 r l.length (l.map bv)
def iv (n : Int) : Value := .int .i64 n
def NewI (w w' : World) (r : Value) (l : List Int) : Prop := w'.ownsRow w.heap.size 3 1 r l.length (l.map iv)
def Is (w : World) (v : Value) (l : List Int) : Prop := Sl w 3 v l.length (l.map iv)
theorem NewB.bs {w w' : World} {r : Value} {l : Bytes} (h : NewB w w' r l) : Bs 5 w' r l := Sl.of_own h (by decide)
theorem NewI.is {w w' : World} {r : Value} {l : List Int} (h : NewI w w' r l) : Is w' r l := Sl.of_own h (by decide)
theorem Is.sl {w : World} {v : Value} {l : List Int} (h : Is w v l) : Sl w 3 v l.length (l.map iv) := h
theorem Is.then {w w' : World} {v : Value} {l : List Int} (h : Is w v l) (e : Ext [] w w') : Is w' v l := Sl.then h e
theorem NewI.own {w w' : World} {r : Value} {l : List Int} (h : NewI w w' r l) : w'.ownsRow w.heap.size 3 1 r l.length (l.map iv) := h
theorem NewB.own {w w' : World} {r : Value} {l : Bytes} (h : NewB w w' r l) : w'.ownsRow w.heap.size 5 1 r l.length (l.map bv) := h
theorem NewB.then {w w1 w2 : World} {r : Value} {l : Bytes} (h : NewB w w1 r l) (e : Ext [] w1 w2) : NewB w w2 r l := own_then h e
theorem NewI.then {w w1 w2 : World} {r : Value} {l : List Int} (h : NewI w w1 r l) (e : Ext [] w1 w2) : NewI w w2 r l := own_then h e
theorem NewB.later {w w1 w2 : World} {r : Value} {l : Bytes} (h : NewB w1 w2 r l) (hs : w.heap.size ≤ w1.heap.size) : NewB w w2 r l := own_rebase (base := w1.heap.size) h (fun b hb => Nat.le_trans hs (own_fresh h b hb))
theorem NewI.later {w w1 w2 : World} {r : Value} {l : List Int} (h : NewI w1 w2 r l) (hs : w.heap.size ≤ w1.heap.size) : NewI w w2 r l := own_rebase (base := w1.heap.size) h (fun b hb => Nat.le_trans hs (own_fresh h b hb))
theorem iv_one (l : List Int) : ∀ u ∈ l.map iv, u.oneCell' = true := by
  intro u hu
  obtain ⟨b, _, rfl⟩ := List.mem_map.1 hu
  rfl

theorem NewB.snoc {w w' : World} {v : Value} {l : Bytes} {c : UInt8} (h : w'.ownsRow w.heap.size 5 1 v (l.length + 1) (l.map bv ++ [.int .u8 (c.toNat : Int)])) : NewB w w' v (l ++ [c]) := by
  unfold NewB
  rw [List.length_append, List.map_append]
  exact h
theorem NewI.snoc {w w' : World} {v : Value} {l : List Int} {c : Int} (h : w'.ownsRow w.heap.size 3 1 v (l.length + 1) (l.map iv ++ [.int .i64 c])) : NewI w w' v (l ++ [c]) := by
  unfold NewI
  rw [List.length_append, List.map_append]
  exact h
/-- an int -/
def I64 (n : Int) : Prop := -9223372036854775808 ≤ n ∧ n ≤ 9223372036854775807
end Go.Proofs.YtbbfgbkbdhghbaaGreatDoor
