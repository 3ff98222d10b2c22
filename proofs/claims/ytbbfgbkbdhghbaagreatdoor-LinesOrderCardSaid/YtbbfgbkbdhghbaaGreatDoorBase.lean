/-
  What a call may turn, and how slices and bytes lie in memory: plain laws, no condition.
-/
import Derived.WalkKit
import Derived.Lib.Hide
import Derived.Deep.QuietTactic
import Derived.BigQuiet
set_option linter.unusedVariables false
set_option linter.unusedSimpArgs false
set_option linter.unusedSectionVars false
namespace Go.Proofs.YtbbfgbkbdhghbaaGreatDoor
open Go.RowKit

/-- What a call may turn: of the blocks that were there only those of M. -/
structure Ext (M : List Nat) (w w' : World) : Prop where
  os : w'.os = w.os
  tape : w'.tape = w.tape
  output : w'.output = w.output
  size : w.heap.size ≤ w'.heap.size
  block : ∀ k, k < w.heap.size → k ∉ M → w'.heap[k]? = w.heap[k]?

theorem Ext.refl (M : List Nat) (w : World) : Ext M w w := ⟨rfl, rfl, rfl, Nat.le_refl _, fun _ _ _ => rfl⟩

theorem Ext.trans {M M' : List Nat} {w w1 w2 : World} (h : Ext M w w1) (h' : Ext M' w1 w2) (hM : ∀ k ∈ M', k < w.heap.size → k ∈ M) : Ext M w w2 :=
  ⟨h'.os.trans h.os, h'.tape.trans h.tape, h'.output.trans h.output, Nat.le_trans h.size h'.size,
    fun k hk hm => (h'.block k (Nat.lt_of_lt_of_le hk h.size) (fun e => hm (hM k e hk))).trans (h.block k hk hm)⟩

theorem Ext.then {M : List Nat} {w w1 w2 : World} (h : Ext M w w1) (h' : Ext [] w1 w2) : Ext M w w2 := h.trans h' (by simp)
theorem Ext.same {M : List Nat} {w w1 w2 : World} (h : Ext M w w1) (h' : Ext M w1 w2) : Ext M w w2 := h.trans h' (fun _ h _ => h)
theorem Ext.mono {M M' : List Nat} {w w1 : World} (h : Ext M w w1) (hM : ∀ k ∈ M, k < w.heap.size → k ∈ M') : Ext M' w w1 :=
  (Ext.refl M' w).trans h hM

theorem Ext.drew {M : List Nat} {w w1 : World} (h : Ext M w w1) : Ext M w w1.drew := ⟨h.os, h.tape, h.output, h.size, h.block⟩
theorem Ext.drewN {M : List Nat} {w w1 : World} (h : Ext M w w1) (n : Nat) : Ext M w (w1.drewN n) := ⟨h.os, h.tape, h.output, h.size, h.block⟩
theorem Ext.alloc {M : List Nat} {w w1 : World} (h : Ext M w w1) (o : Obj) : Ext M w (w1.alloc o) :=
  h.then ⟨rfl, rfl, rfl, by simp, fun k hk _ => Below.heap_alloc _ _ _ hk⟩
theorem Ext.setCell {M : List Nat} {w w1 : World} (h : Ext M w w1) {p : Addr} (hp : p.block < w.heap.size → p.block ∈ M) (u : Value) : Ext M w (w1.setCell p u) :=
  h.trans (M' := [p.block]) ⟨rfl, rfl, rfl, by simp [World.setCell], fun k _ hm => Below.heap_setCell _ _ _ _ (by simpa using hm)⟩ (by simpa using hp)
theorem Ext.grown {M : List Nat} {w w1 w2 : World} {row : Option Nat} (h : Ext M w w1) (hg : w1.grownBy w2 row) (hr : ∀ k, row = some k → k < w.heap.size → k ∈ M) : Ext M w w2 :=
  h.trans (M' := row.toList) ⟨hg.os, hg.tape, hg.output, hg.size, fun k hk hm => hg.block k hk (fun e => hm (by simp [← e]))⟩ (by simpa using hr)
theorem Ext.below {w w1 : World} (h : Ext [] w w1) : Below w.heap.size w w1 := ⟨h.os, h.tape, h.output, h.size, fun k hk => h.block k hk (by simp)⟩
theorem Ext.of_below {w w1 : World} (h : Below w.heap.size w w1) : Ext [] w w1 := ⟨h.os, h.tape, h.output, h.size, fun k hk _ => h.block k hk⟩

/-! ### cells in a block -/
/-- From cell off on of block b (of cells of type T) stand the values xs. -/
def Row (w : World) (T : TypeId) (b off : Nat) (xs : List Value) : Prop :=
  ∃ cs fr, w.heap[b]? = some (.cells cs T fr) ∧ off + xs.length ≤ cs.size ∧ (cs.toList.drop off).take xs.length = xs

theorem Row.lt {w : World} {T : TypeId} {b off : Nat} {xs : List Value} (h : Row w T b off xs) : b < w.heap.size := by
  obtain ⟨cs, fr, h1, _⟩ := h
  exact (Array.getElem?_eq_some_iff.1 h1).1
theorem Row.cell {w : World} {T : TypeId} {b off : Nat} {xs : List Value} (h : Row w T b off xs) {i : Nat} {v : Value} (hi : xs[i]? = some v) : w.cell? ⟨b, off + i, none⟩ = some v := by
  obtain ⟨cs, fr, h1, h2, h3⟩ := h
  obtain ⟨hl, hv⟩ := List.getElem?_eq_some_iff.1 hi
  have : ((cs.toList.drop off).take xs.length)[i]? = some v := by rw [h3]; exact hi
  simp only [World.cell?, h1]
  rw [List.getElem?_take_of_lt hl, List.getElem?_drop] at this
  simpa using this
theorem Row.ext {w w' : World} {T : TypeId} {b off : Nat} {xs : List Value} (h : Row w T b off xs) {M : List Nat} (e : Ext M w w') (hm : b ∉ M) : Row w' T b off xs := by
  have hl := h.lt
  obtain ⟨cs, fr, h1, h2⟩ := h
  exact ⟨cs, fr, (e.block b hl hm).trans h1, h2⟩
theorem Row.type {w : World} {T T' : TypeId} {b off : Nat} {xs : List Value} {cs : Array Value} {fr : Nat × Nat} (h : Row w T b off xs) (h' : w.heap[b]? = some (.cells cs T' fr)) : T' = T := by
  obtain ⟨cs1, fr1, h1, _⟩ := h
  rw [h1] at h'
  injection h' with h'
  injection h' with _ h' _
  exact h'.symm
theorem Row.sub {w : World} {T : TypeId} {b off : Nat} {xs : List Value} (h : Row w T b off xs) (i n : Nat) (hn : i + n ≤ xs.length) : Row w T b (off + i) ((xs.drop i).take n) := by
  obtain ⟨cs, fr, h1, h2, h3⟩ := h
  refine ⟨cs, fr, h1, ?_, ?_⟩
  · simp; omega
  · have : ((xs.drop i).take n).length = n := by simp; omega
    rw [this]
    conv => rhs; rw [← h3]
    rw [List.drop_take, List.take_take, List.drop_drop]
    congr 1
    omega

/-- A slice of n elements whose cells, one behind the other, hold xs. -/
def Sl (w : World) (T : TypeId) (v : Value) (n : Nat) (xs : List Value) : Prop :=
  ∃ p c, v = .slice p n c ∧ n ≤ c ∧ c ≤ 9223372036854775807 ∧ (n = 0 ∧ xs = [] ∨ 0 < n ∧ ∃ b off, p = some ⟨b, off, none⟩ ∧ Row w T b off xs)

theorem Sl.len {w : World} {T : TypeId} {p : Option Addr} {n n' c : Nat} {xs : List Value} (h : Sl w T (.slice p n' c) n xs) : n' = n := by
  obtain ⟨p, c, h, _⟩ := h
  injection h
theorem Sl.shape {w : World} {T : TypeId} {v : Value} {n : Nat} {xs : List Value} (h : Sl w T v n xs) : ∃ p c, v = .slice p n c ∧ n ≤ c ∧ c ≤ 9223372036854775807 := by
  obtain ⟨p, c, h, h1, h2, _⟩ := h
  exact ⟨p, c, h, h1, h2⟩
theorem Sl.at {w : World} {T : TypeId} {v : Value} {n : Nat} {xs : List Value} (h : Sl w T v n xs) (hn : 0 < n) : ∃ b off c, v = .slice (some ⟨b, off, none⟩) n c ∧ Row w T b off xs := by
  obtain ⟨p, c, rfl, _, _, h | ⟨_, b, off, rfl, h⟩⟩ := h
  · omega
  · exact ⟨b, off, c, rfl, h⟩
theorem Sl.ext {w w' : World} {T : TypeId} {v : Value} {n : Nat} {xs : List Value} (h : Sl w T v n xs) {M : List Nat} (e : Ext M w w')
    (hm : ∀ b ∈ M, ∀ cs fr, w.heap[b]? ≠ some (.cells cs T fr)) : Sl w' T v n xs := by
  obtain ⟨p, c, rfl, h1, h2, h | ⟨hn, b, off, rfl, h⟩⟩ := h
  · exact ⟨p, c, rfl, h1, h2, .inl h⟩
  · refine ⟨_, c, rfl, h1, h2, .inr ⟨hn, b, off, rfl, h.ext e (fun hb => ?_)⟩⟩
    obtain ⟨cs, fr, hh, _⟩ := h
    exact hm b hb cs fr hh
theorem Sl.then {w w' : World} {T : TypeId} {v : Value} {n : Nat} {xs : List Value} (h : Sl w T v n xs) (e : Ext [] w w') : Sl w' T v n xs := h.ext e (by simp)
theorem Sl.nil (w : World) (T : TypeId) : Sl w T (.slice none 0 0) 0 [] := ⟨none, 0, rfl, Nat.le_refl _, by omega, .inl ⟨rfl, rfl⟩⟩

/-! ### bytes -/
def bv (b : UInt8) : Value := .int .u8 (b.toNat : Int)
def Bs (U : TypeId) (w : World) (v : Value) (l : List UInt8) : Prop := Sl w U v l.length (l.map bv)
theorem Bs.sl {U : TypeId} {w : World} {v : Value} {l : List UInt8} (h : Bs U w v l) : Sl w U v l.length (l.map bv) := h
theorem Bs.then {U : TypeId} {w w' : World} {v : Value} {l : List UInt8} (h : Bs U w v l) (e : Ext [] w w') : Bs U w' v l := Sl.then h e

/-- what one owns, to be read on. -/
theorem Sl.of_own {w : World} {base T size n : Nat} {v : Value} {xs : List Value} (h : w.ownsRow base T size v n xs) (hs : 0 < size) : Sl w T v n xs := by
  obtain ⟨hl, h | ⟨g, cap, cur, rfl, hg, hh, h1, h2, h3, h4⟩⟩ := h
  · obtain ⟨rfl, rfl⟩ := h
    have : xs = [] := by simpa using hl
    subst this
    exact Sl.nil _ _
  · unfold maxLen at h2
    refine ⟨_, cap, rfl, h1, by omega, ?_⟩
    rcases Nat.eq_zero_or_pos n with rfl | hn
    · left; simp at hl; exact ⟨rfl, hl⟩
    · right
      refine ⟨hn, g, 0, rfl, cur, (0, 0), hh, ?_, ?_⟩
      · rw [hl, h3]; simp; exact Nat.mul_le_mul_right _ h1
      · simp [hl, h4]


theorem Ext.cell {M : List Nat} {w w' : World} {b off : Nat} {v : Value} (e : Ext M w w') (hb : b ∉ M) (h : w.cell? ⟨b, off, none⟩ = some v) : w'.cell? ⟨b, off, none⟩ = some v := by
  have hl : b < w.heap.size := by
    by_cases hl : b < w.heap.size
    · exact hl
    · simp [World.cell?, Array.getElem?_eq_none (Nat.le_of_not_lt hl)] at h
  rw [World.cell?, e.block b hl hb]
  exact h
theorem Ext.at {M : List Nat} {w w' : World} {k : Nat} {o : Obj} (x : Ext M w w') (h : w.heap[k]? = some o) (hk : k ∉ M) : w'.heap[k]? = some o := (x.block k (Array.getElem?_eq_some_iff.1 h).1 hk).trans h
theorem cell_of {w : World} {k off : Nat} {cs : Array Value} {T : TypeId} {fr : Nat × Nat} {v : Value} (h : w.heap[k]? = some (.cells cs T fr)) (hv : cs[off]? = some v) : w.cell? ⟨k, off, none⟩ = some v := by
  simp only [World.cell?, h]; exact hv
end Go.Proofs.YtbbfgbkbdhghbaaGreatDoor
