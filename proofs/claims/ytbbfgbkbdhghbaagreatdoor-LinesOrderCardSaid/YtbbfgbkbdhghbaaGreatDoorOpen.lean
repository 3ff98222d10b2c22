/-
  An argument's slices, opened: plain laws.
-/
import Derived.Test.YtbbfgbkbdhghbaaGreatDoorBytes
import Derived.Deep.Slices
set_option linter.unusedVariables false
set_option linter.unusedSimpArgs false
namespace Go.Proofs.YtbbfgbkbdhghbaaGreatDoor
open Go.RowKit Go.ChangeShapes Go.WideShapes

theorem cell_at {w : World} {a : Addr} {v : Value} (h : w.cell? a = some v) : a.spot = none ∧ ∃ cs T fr, w.heap[a.block]? = some (.cells cs T fr) ∧ cs[a.off]? = some v := by
  unfold World.cell? at h
  split at h
  · rename_i cs T fr hh
    split at h
    · simp at h
    · rename_i hs
      exact ⟨by simpa using hs, cs, T, fr, hh, h⟩
  · simp at h

theorem row_of_cells {w : World} {b off : Nat} {xs : List Value} (hx : xs ≠ []) (h : ∀ j, j < xs.length → w.cell? ⟨b, off + j, none⟩ = xs[j]?) : ∃ U, Row w U b off xs := by
  have hpos : 0 < xs.length := List.length_pos_iff.2 hx
  have h0 := h 0 hpos
  rw [List.getElem?_eq_getElem hpos] at h0
  obtain ⟨_, cs, T, fr, hh, _⟩ := cell_at h0
  have hc : ∀ j, j < xs.length → cs[off + j]? = xs[j]? := fun j hj => by
    have := h j hj
    simpa [World.cell?, hh] using this
  have hsz : off + xs.length ≤ cs.size := by
    have := hc (xs.length - 1) (by omega)
    rw [List.getElem?_eq_getElem (show xs.length - 1 < xs.length by omega)] at this
    have := (Array.getElem?_eq_some_iff.1 this).1
    omega
  refine ⟨T, cs, fr, hh, hsz, ?_⟩
  apply List.ext_getElem?
  intro j
  rw [List.getElem?_take]
  split
  · rename_i hj
    rw [List.getElem?_drop, Array.getElem?_toList, hc j hj]
  · rename_i hj
    rw [List.getElem?_eq_none (by omega)]

theorem flatten_get {k : Nat} (hk : 0 < k) : ∀ (l : List (List Value)), (∀ c ∈ l, c.length = k) → ∀ (j : Nat), l.flatten[j]? = (l[j / k]?).bind (·[j % k]?)
  | [], _, j => by simp
  | c :: l, h, j => by
    have hc : c.length = k := h c (.head _)
    have ih := flatten_get hk l (fun c' hc' => h c' (.tail _ hc'))
    rw [List.flatten_cons]
    by_cases hj : j < k
    · rw [List.getElem?_append_left (by omega), Nat.div_eq_of_lt hj, Nat.mod_eq_of_lt hj]
      rfl
    · rw [List.getElem?_append_right (by omega), hc, ih]
      have e1 : j / k = (j - k) / k + 1 := by rw [Nat.div_eq_sub_div hk (by omega)]
      have e2 : j % k = (j - k) % k := by rw [Nat.mod_eq_sub_mod (by omega)]
      rw [e1, e2]
      rfl
theorem flatten_len {k : Nat} : ∀ (l : List (List Value)), (∀ c ∈ l, c.length = k) → l.flatten.length = l.length * k
  | [], _ => by simp
  | c :: l, h => by
    rw [List.flatten_cons, List.length_append, flatten_len l (fun c' hc' => h c' (.tail _ hc')), h c (.head _), List.length_cons, Nat.succ_mul, Nat.add_comm]

theorem elem_cell {w : World} {U : TypeId} {b off n c m : Nat} {css : List (List Value)} {k : Nat} (hk : 0 < k) (hl : Sl w U (.slice (some ⟨b, off, none⟩) m c) n css.flatten) (hc : ∀ cs ∈ css, cs.length = k) {i j : Nat} (hi : i < css.length) (hj : j < k) {v : Value} (h : css[i][j]? = some v) (hn : 0 < n) :
    w.cell? ⟨b, off + (i * k + j), none⟩ = some v := by
  obtain ⟨b', off', c', e, hrow⟩ := hl.at hn
  injection e with e _ _
  injection e with e
  injection e with e1 e2
  subst e1; subst e2
  refine hrow.cell ?_
  rw [flatten_get hk _ hc]
  have e1 : (i * k + j) / k = i := by rw [Nat.mul_comm, Nat.mul_add_div hk, Nat.div_eq_of_lt hj]; rfl
  have e2 : (i * k + j) % k = j := by rw [Nat.mul_comm, Nat.mul_add_mod, Nat.mod_eq_of_lt hj]
  rw [e1, e2, List.getElem?_eq_getElem hi]
  exact h

/-- the cells of element i of a slice whose elements have k cells each -/
theorem elem_enc {α : Type} {enc : α → List Value} {w : World} {U : TypeId} {b off m c k : Nat} {l : List α} (hk : 0 < k) (he : ∀ x, (enc x).length = k) (hl : Sl w U (.slice (some ⟨b, off, none⟩) m c) l.length (l.flatMap enc)) {i : Nat} (hi : i < l.length) (j : Nat) (hj : j < k) {v : Value} (h : (enc l[i])[j]? = some v) :
    w.cell? ⟨b, off + i * k + j, none⟩ = some v := by
  have h1 : l.flatMap enc = (l.map enc).flatten := by rw [List.flatMap_def]
  rw [h1] at hl
  have := elem_cell (css := l.map enc) hk (n := l.length) hl (fun cs hcs => by obtain ⟨x, _, rfl⟩ := List.mem_map.1 hcs; exact he x) (i := i) (j := j) (by simpa using hi) hj (v := v) (by simpa using h) (by omega)
  rw [Nat.add_assoc]
  exact this

section
variable {H : Type} {enc : TypeId × Value → H} {P : Program} {w : World} {base : Nat} {spare : Nat → Bool} {held : Bool}

/-- a slice's elements: their cells, and that each reads -/
theorem open_rows {t e : TypeId} {fuel : Nat} {v : Value} {x : DataW H × List MemPlace} (k : Nat) (ht : P.underlying t = some (.slice e)) (hk : P.cellsOf e = k) (h0 : 0 < k)
    (h : DataW.trod enc P w base spare held fuel t [v] = some x) :
    ∃ (css : List (List Value)) (U : TypeId) (f : Nat), css.length ≤ 9223372036854775807 ∧ Sl w U v css.length css.flatten ∧ ∀ cs ∈ css, cs.length = k ∧ ∃ y, DataW.trod enc P w base spare held f e cs = some y := by
  rcases Deep.open_slice ht h with ⟨h1, _⟩ | ⟨a, len, cap, m, n, D, Pl, h1, hb, hl, hm, hmm, _, hx⟩
  · injection h1 with h1
    subst h1
    exact ⟨[], 0, 0, by simp, Sl.nil w 0, by simp⟩
  · injection h1 with h1
    subst h1
    have hlm : len ≤ m := by rw [hmm]; split <;> omega
    obtain ⟨C, hC⟩ := Deep.choose_lt (α := List Value) (p := fun i cs' => w.cells? base (a.add (i * P.cellsOf e)) (P.cellsOf e) = some cs' ∧ DataW.trod enc P w base spare held n e cs' = some (D i, Pl i)) hx
    rw [hk] at hC
    have hlen : ∀ cs ∈ (List.range len).map C, cs.length = k ∧ ∃ y, DataW.trod enc P w base spare held n e cs = some y := by
      intro cs hcs
      obtain ⟨i, hi, rfl⟩ := List.mem_map.1 hcs
      obtain ⟨h1, h2⟩ := hC i (by have := List.mem_range.1 hi; omega)
      exact ⟨(World.cells?_some h1).2.1, _, h2⟩
    have hcl : ((List.range len).map C).length = len := by simp
    have hfl := flatten_len _ (fun c hc => (hlen c hc).1)
    rw [hcl] at hfl
    rcases Nat.eq_zero_or_pos len with rfl | hp
    · exact ⟨[], 0, 0, by simp, ⟨_, _, rfl, hl, by unfold maxLen at hm; omega, .inl ⟨rfl, rfl⟩⟩, by simp⟩
    · have hcell : ∀ j, j < len * k → w.cell? (a.add j) = ((List.range len).map C).flatten[j]? := by
        intro j hj
        have hq : j / k < len := Nat.div_lt_of_lt_mul (by rwa [Nat.mul_comm] at hj)
        have hr : j % k < k := Nat.mod_lt _ h0
        rw [flatten_get h0 _ (fun c hc => (hlen c hc).1)]
        obtain ⟨h1, _⟩ := hC (j / k) (by omega)
        have := (World.cells?_some h1).2.2 (j % k) hr
        rw [Deep.add_add, Nat.mul_comm, Nat.div_add_mod] at this
        rw [this]
        simp [hq]
      have hs0 := hcell 0 (Nat.mul_pos hp h0)
      rw [List.getElem?_eq_getElem (by rw [hfl]; exact Nat.mul_pos hp h0)] at hs0
      have hsp := (cell_at hs0).1
      obtain ⟨b, off, sp⟩ := a
      have hsp' : sp = none := by simpa [Addr.add] using hsp
      subst hsp'
      obtain ⟨U, hrow⟩ := row_of_cells (w := w) (b := b) (off := off) (xs := ((List.range len).map C).flatten) (fun e => by
        have : 0 < len * k := Nat.mul_pos hp h0
        rw [e] at hfl; simp at hfl; omega) (fun j hj => by
        rw [hfl] at hj
        rw [← hcell j hj, add_off])
      refine ⟨(List.range len).map C, U, n, by rw [hcl]; unfold maxLen at hm; omega, ?_, hlen⟩
      rw [hcl]
      exact ⟨_, _, rfl, hl, by unfold maxLen at hm; omega, .inr ⟨hp, b, off, rfl, hrow⟩⟩

theorem open_bytes {t e : TypeId} {fuel : Nat} {v : Value} {x : DataW H × List MemPlace} (ht : P.underlying t = some (.slice e)) (he : P.underlying e = some (.int .u8)) (hc : P.cellsOf e = 1)
    (h : DataW.trod enc P w base spare held fuel t [v] = some x) : ∃ (l : Bytes) (U : TypeId), Bs U w v l ∧ l.length ≤ 9223372036854775807 := by
  obtain ⟨css, U, f, hl, hs, hcs⟩ := open_rows 1 ht hc (by decide) h
  have hb : ∀ css : List (List Value), (∀ cs ∈ css, cs.length = 1 ∧ ∃ y, DataW.trod enc P w base spare held f e cs = some y) → ∃ l : Bytes, css.flatten = l.map bv ∧ l.length = css.length := by
    intro css
    induction css with
    | nil => intro _; exact ⟨[], rfl, rfl⟩
    | cons c css ih =>
      intro h
      obtain ⟨l, h1, h2⟩ := ih (fun cs hcs => h cs (.tail _ hcs))
      obtain ⟨_, y, hy⟩ := h c (.head _)
      obtain ⟨n, rfl, _, hw⟩ := DataW.trod_int he hy
      have hw' : 0 ≤ n ∧ n ≤ 255 := by simpa [Lit.wf, IntKind.min, IntKind.max, IntKind.bits, IntKind.signed] using hw
      refine ⟨UInt8.ofNat n.toNat :: l, ?_, by simp [h2]⟩
      rw [List.flatten_cons, h1, List.map_cons]
      simp only [List.cons_append, List.nil_append]
      congr 1
      unfold bv
      rw [UInt8.toNat_ofNat']
      congr 1
      omega
  obtain ⟨l, h1, h2⟩ := hb css hcs
  exact ⟨l, U, by unfold Bs; rw [← h1, h2]; exact hs, by omega⟩

theorem open_int1 {t : TypeId} {fuel : Nat} {v : Value} {x : DataW H × List MemPlace} (ht : P.underlying t = some (.int .i64)) (h : DataW.trod enc P w base spare held fuel t [v] = some x) : ∃ n, v = .int .i64 n ∧ I64 n := by
  obtain ⟨n, h1, _, hw⟩ := DataW.trod_int ht h
  injection h1 with h1
  exact ⟨n, h1, by simpa [Lit.wf, IntKind.min, IntKind.max, IntKind.bits, IntKind.signed, I64] using hw⟩

theorem open_int_list {t e : TypeId} {fuel : Nat} {v : Value} {x : DataW H × List MemPlace} (ht : P.underlying t = some (.slice e)) (he : P.underlying e = some (.int .i64)) (hc : P.cellsOf e = 1)
    (h : DataW.trod enc P w base spare held fuel t [v] = some x) : ∃ (l : List Int) (U : TypeId), Sl w U v l.length (l.map iv) ∧ l.length ≤ 9223372036854775807 ∧ ∀ n ∈ l, I64 n := by
  obtain ⟨css, U, f, hl, hs, hcs⟩ := open_rows 1 ht hc (by decide) h
  have hb : ∀ css : List (List Value), (∀ cs ∈ css, cs.length = 1 ∧ ∃ y, DataW.trod enc P w base spare held f e cs = some y) → ∃ l : List Int, css.flatten = l.map iv ∧ l.length = css.length ∧ ∀ n ∈ l, I64 n := by
    intro css
    induction css with
    | nil => intro _; exact ⟨[], rfl, rfl, by simp⟩
    | cons c css ih =>
      intro h
      obtain ⟨l, h1, h2, h3⟩ := ih (fun cs hcs => h cs (.tail _ hcs))
      obtain ⟨hl1, y, hy⟩ := h c (.head _)
      match c, hl1 with
      | [v], _ =>
      obtain ⟨n, rfl, hn⟩ := open_int1 he hy
      exact ⟨n :: l, by rw [List.flatten_cons, h1]; rfl, by simp [h2], by simpa using ⟨hn, h3⟩⟩
  obtain ⟨l, h1, h2, h3⟩ := hb css hcs
  exact ⟨l, U, by rw [← h1, h2]; exact hs, by omega, h3⟩

/-- the fields of a struct's cells -/
theorem open_fields {e : TypeId} {fs : Array Field} {f : Nat} {cs : List Value} {y : DataW H × List MemPlace} (he : P.underlying e = some (.struct fs)) (h : DataW.trod enc P w base spare held f e cs = some y) :
    ∃ n, ∀ (i : Nat) (fd : Field), fs[i]? = some fd → ∃ z, DataW.trod enc P w base spare held n fd.type ((cs.drop fd.offset).take (P.cellsOf fd.type)) = some z := by
  obtain ⟨xs, n, _, _, _, hl, hf⟩ := DataW.trod_struct he h
  refine ⟨n, fun i fd hi => ?_⟩
  have hlt : i < xs.length := by rw [hl]; exact (Array.getElem?_eq_some_iff.1 hi).1
  exact ⟨xs[i], by rw [hf i fd hi, List.getElem?_eq_getElem hlt]⟩
theorem open_field1 {fs : Array Field} {n : Nat} {cs : List Value} (hf : ∀ (i : Nat) (fd : Field), fs[i]? = some fd → ∃ z, DataW.trod enc P w base spare held n fd.type ((cs.drop fd.offset).take (P.cellsOf fd.type)) = some z)
    (i : Nat) {t o : Nat} (h : (fs[i]?).map (fun f => (f.type, f.offset)) = some (t, o)) (hc : P.cellsOf t = 1) {v : Value} (hv : cs[o]? = some v) : ∃ z, DataW.trod enc P w base spare held n t [v] = some z := by
  obtain ⟨fd, h1, h2⟩ := Option.map_eq_some_iff.1 h
  simp only [Prod.mk.injEq] at h2
  obtain ⟨z, hz⟩ := hf i fd h1
  rw [h2.1, h2.2, hc] at hz
  obtain ⟨ho, hv⟩ := List.getElem?_eq_some_iff.1 hv
  rw [List.drop_eq_getElem_cons ho, hv] at hz
  exact ⟨z, hz⟩
end

theorem okWide_slice {P : Program} {w : World} {r : Reach} {base : Nat} {t e : TypeId} {v : Value} (ht : P.underlying t = some (.slice e)) (h : Value.okWide P w r base t v) : v.cells.toList = [v] := by
  unfold Value.okWide at h
  rw [ht] at h
  simp only at h
  unfold Cell.okWide at h
  rw [ht] at h
  simp only at h
  unfold Cell.ok at h
  rw [ht] at h
  cases v <;> simp_all [Value.cells]
theorem okWide_int {P : Program} {w : World} {r : Reach} {base : Nat} {t : TypeId} {k : IntKind} {v : Value} (ht : P.underlying t = some (.int k)) (h : Value.okWide P w r base t v) : ∃ n, v = .int k n ∧ k.has n := by
  unfold Value.okWide at h
  rw [ht] at h
  simp only at h
  unfold Cell.okWide at h
  rw [ht] at h
  simp only at h
  unfold Cell.ok at h
  rw [ht] at h
  cases v <;> simp_all
theorem len3 {α : Type} {l : List α} (h : l.length = 3) : ∃ a b c, l = [a, b, c] := by
  match l, h with
  | [a, b, c], _ => exact ⟨a, b, c, rfl⟩
theorem len4 {α : Type} {l : List α} (h : l.length = 4) : ∃ a b c d, l = [a, b, c, d] := by
  match l, h with
  | [a, b, c, d], _ => exact ⟨a, b, c, d, rfl⟩
end Go.Proofs.YtbbfgbkbdhghbaaGreatDoor
