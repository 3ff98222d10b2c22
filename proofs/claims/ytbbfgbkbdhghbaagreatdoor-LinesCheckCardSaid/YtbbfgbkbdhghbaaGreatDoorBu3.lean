/-
  slices.DeleteFunc over pairs, with the closure of view.Scan: what is left.
  A row of elements of several cells that one owns, sorted by the library: plain laws.
-/
import Derived.Test.YtbbfgbkbdhghbaaGreatDoorBu2
import Derived.Test.YtbbfgbkbdhghbaaGreatDoorBu0
import Derived.Shelf.SlSortCmp.NoneTotal
import Derived.Sort.OwnSorted
set_option linter.unusedVariables false
set_option linter.unusedSimpArgs false
namespace Go.Proofs.YtbbfgbkbdhghbaaGreatDoor
open Go.RowKit

theorem Rel2.take {α β : Type} {R : α → β → Prop} {es : List α} {xs : List β} (h : Rel2 R es xs) : ∀ n, Rel2 R (es.take n) (xs.take n) :=
  Rel2.ind (P := fun es xs => ∀ n, Rel2 R (es.take n) (xs.take n)) (fun n => by simp [Rel2]) (fun _ _ _ _ h1 _ ih n => by cases n with
    | zero => exact Rel2.nil R
    | succ n => exact Rel2.cons h1 (ih n)) h
theorem Rel2.drop {α β : Type} {R : α → β → Prop} {es : List α} {xs : List β} (h : Rel2 R es xs) : ∀ n, Rel2 R (es.drop n) (xs.drop n) :=
  Rel2.ind (P := fun es xs => ∀ n, Rel2 R (es.drop n) (xs.drop n)) (fun n => by simp [Rel2]) (fun _ _ _ _ h1 h2 ih n => by cases n with
    | zero => exact Rel2.cons h1 h2
    | succ n => exact ih n) h

theorem OwnP.rd {base : Nat} {w : World} {v : Value} {l : Tbl} (h : OwnP base w v l) : ∃ hs, w.ownsRow base 95 2 v l.length (cells2 hs) ∧ RdP w v hs l := by
  obtain ⟨hs, h1, h2⟩ := h
  exact ⟨hs, h1, Sl.of_own h1 (by decide), h2⟩

set_option maxHeartbeats 1000000 in
theorem pairs_DeleteFunc {w : World} {V : VW} {ch : List (Bytes × Value)} {chx : List (Bytes × Option Bytes)} {bx base : Nat} {v : Value} {l : Tbl}
    (hbx : w.cell? ⟨bx, 0, none⟩ = some (.pointer (some ⟨V.s, 0, none⟩))) (c0 : w.cell? ⟨V.s, 0, none⟩ = some (.map (some V.c))) (hc : MapIs strEnc w V.c ch) (ec : Ents (ShapeV w) ch chx) (hv : OwnP base w v l)
    (hbb : bx < base) (hsb : V.s < base) (hcb : V.c < base) :
    Calls Tryz.prog 83 #[v, .func (.func 85) #[] #[.pointer (some ⟨bx, 0, none⟩)]] w fun e w' => ∃ r, e = .returned r ∧ OwnP base w' r (l.filter fun p => !(alook ch p.1).isSome) ∧ Ext v.ownBlock.toList w w' := by
  obtain ⟨hs, ho, hrd⟩ := hv.rd
  have hI := pairs_IndexFunc hbx c0 hc ec hrd
  obtain ⟨vp, vc, rfl, _, _⟩ := hrd.1.shape
  go_enter Tryz.func83, Tryz.ntmps83
  iterate 20 (first | at_builtin | go_step | skip)
  go_at_call 103
  refine hI.mono ?_
  rintro e w1 ⟨ix, rfl, x1, ⟨rfl, hall⟩ | ⟨n0, rfl, hn0, hch, hbefore⟩⟩
  · go_wp2_with fail
    go_ret
    refine ⟨_, rfl, ?_, x1.mono (by simp)⟩
    have e : l.filter (fun p => !(alook ch p.1).isSome) = l := List.filter_eq_self.2 fun p hp => by simp [hall p hp]
    rw [e]
    exact hv.then x1
  · have hne : ((n0 : Int) == -1) = false := by simp
    have H1 := Lib.hid hch
    have H2 := Lib.hid hbefore
    obtain ⟨b, off, c', hpp, _⟩ := hrd.1.at (by omega)
    injection hpp with hpp _ hc'
    subst hpp; subst hc'
    have hz : off = 0 := by
      obtain ⟨_, ⟨h0, _⟩ | ⟨g', cap', cur, h0, _⟩⟩ := ho
      · cases h0
      · injection h0 with h0; injection h0 with h0; injection h0
    subst hz
    have hnn : ¬ ((n0 : Int) = -1) := by omega
    clear hch hbefore hI
    dsimp only
    iterate 60 (first | at_builtin | go_step | skip)
    have hl0 : l.length ≤ 9223372036854775807 := by omega
    go_loopw [5, 6] (fun si sj wr => ∃ (i j : Nat) (hs' : List (Value × Value)), i < j ∧ j ≤ l.length ∧ si = .int .i64 i ∧ sj = .int .i64 j ∧ hs'.length = l.length ∧ wr.ownsRow base 95 2 (.slice (some ⟨b, 0, none⟩) l.length vc) l.length (cells2 hs') ∧
      Rel2 (PairH wr) (hs'.take i) ((l.take j).filter fun p => !(alook ch p.1).isSome) ∧ Rel2 (PairH wr) (hs'.drop j) (l.drop j) ∧ Ext [b] w wr) (fun _ sj _ => l.length - (intOf sj).toNat)
    case atStart =>
      refine ⟨n0, n0 + 1, hs, by omega, by omega, rfl, by simp, ?_, own_then ho x1, ?_, ?_, x1.mono (by simp)⟩
      · exact hrd.2.length
      · have e : (l.take (n0 + 1)).filter (fun p => !(alook ch p.1).isSome) = l.take n0 := by
          rw [List.take_succ_eq_append_getElem hn0, List.filter_append]
          have e1 : (l.take n0).filter (fun p => !(alook ch p.1).isSome) = l.take n0 := List.filter_eq_self.2 fun p hp => by
            obtain ⟨j, hj, rfl⟩ := List.mem_iff_getElem.1 hp
            have hj' : j < n0 := by simp at hj; omega
            rw [List.getElem_take]
            simp only [H2.out j hj', Bool.not_false]
          rw [e1, List.filter_cons, H1.out]
          simp
        rw [e]
        exact (hrd.2.take n0).imp fun _ _ q => q.ext x1 (by simp)
      · exact (hrd.2.drop (n0 + 1)).imp fun _ _ q => q.ext x1 (by simp)
    case round =>
      obtain ⟨i, j, hs', hij, hj, rfl, rfl, hhl, hown, hr1, hr2, hx⟩ := hrel
      have hbl := hown
      have hbb2 : base ≤ b := own_fresh hown b rfl
      have hbx2 : bx ∉ [b] := by simp; omega
      have hsb2 : V.s ∉ [b] := by simp; omega
      have hcb2 : V.c ∉ [b] := by simp; omega
      have hbt : ∀ q ∈ [b], ∀ cs fr, w.heap[q]? ≠ some (.cells cs 5 fr) := fun q hq => own_other (U := 5) ho (by decide) q (by simpa [Value.ownBlock] using hq)
      by_cases hlt : j < l.length
      · have hsl := Sl.of_own hown (by decide)
        obtain ⟨b2, off2, c2, hpp, hrow⟩ := hsl.at (by omega)
        injection hpp with hpp _ _
        injection hpp with hpp
        injection hpp with q1 q2
        subst q1; subst q2
        obtain ⟨⟨kv, vv⟩, he, h1, h2⟩ := hr2.get 0 l[j] (by simp [hlt])
        simp only [List.getElem?_drop, Nat.add_zero] at he
        obtain ⟨g1, g2⟩ := cells2_get hs' j _ he
        have g1 := hrow.cell g1
        have g2 := hrow.cell g2
        rw [Nat.zero_add, Nat.mul_comm] at g1 g2
        obtain ⟨kp, kc, rfl, _, _⟩ := h1.shape
        obtain ⟨wp, wc, rfl, _, _⟩ := h2.shape
        have hi2 : i < hs'.length := by omega
        obtain ⟨f1, f2⟩ := cells2_get hs' i hs'[i] (by simp [hi2])
        have f1 := hrow.cell f1
        have f2 := hrow.cell f2
        rw [Nat.zero_add, Nat.mul_comm] at f1 f2
        have xa : Ext [] wr (wr.alloc (.cells #[.slice kp l[j].1.length kc, .slice wp l[j].2.length wc] 95)) := (Ext.refl [] wr).alloc _
        have xw := hx.then xa
        have hS := scan_1 (xw.cell hbx2 hbx) (xw.cell hsb2 c0) (hc.ext xw hcb2) (ec.imp fun _ _ q => q.ext xw hbt) (h1.then xa) (h2.then xa)
        have s0 : (wr.alloc (.cells #[.slice kp l[j].1.length kc, .slice wp l[j].2.length wc] 95)).cell? ⟨wr.heap.size, 0, none⟩ = some (.slice kp l[j].1.length kc) := by simp only [World.cell?, heap_alloc_new]; rfl
        have s1 : (wr.alloc (.cells #[.slice kp l[j].1.length kc, .slice wp l[j].2.length wc] 95)).cell? ⟨wr.heap.size, 1, none⟩ = some (.slice wp l[j].2.length wc) := by simp only [World.cell?, heap_alloc_new]; rfl
        have HT := Lib.hid (show l.take (j + 1) = l.take j ++ [l[j]] from List.take_succ_eq_append_getElem hlt)
        have HR1 := Lib.hid hr1
        have HR2 := Lib.hid hr2
        have HHL := Lib.hid hhl
        have HE := Lib.hid he
        clear hr1 hr2 hhl he hrow
        cases hq : (alook ch l[j].1).isSome with
        | true =>
          rw [hq] at hS
          have HQ := Lib.hid hq
          clear hq
          iterate 60 (first | at_builtin | go_step | skip)
          go_at_call 85
          refine hS.mono ?_
          rintro e w2 ⟨rfl, x2⟩
          dsimp only
          iterate 60 (first | at_builtin | go_step | skip)
          refine ⟨⟨i, j + 1, hs', by omega, by omega, rfl, by simp, HHL.out, own_then hown (xa.then x2), ?_, ?_, hx.then (xa.then x2)⟩, by simp [intOf]; omega⟩
          · rw [HT.out, List.filter_append]
            have := HR1.out.imp fun _ _ q => q.ext (xa.then x2) (by simp)
            have e2 : [l[j]].filter (fun p => !(alook ch p.1).isSome) = [] := by rw [List.filter_cons, HQ.out]; simp
            rw [e2, List.append_nil]
            exact this
          · have := (HR2.out.drop 1).imp fun _ _ q => q.ext (xa.then x2) (by simp)
            simpa [List.drop_drop] using this
        | false =>
          rw [hq] at hS
          have HQ := Lib.hid hq
          clear hq
          iterate 60 (first | at_builtin | go_step | skip)
          go_at_call 85
          refine hS.mono ?_
          rintro e w2 ⟨rfl, x2⟩
          have t0 := x2.cell (by simp) s0
          have t1 := x2.cell (by simp) s1
          have t2 := (xa.then x2).cell (by simp) f1
          have t3 := (xa.then x2).cell (by simp) f2
          have hown2 := own_then hown (xa.then x2)
          obtain ⟨cur, hcu, _⟩ := own_cells hown2
          have f0 : w2.frozen? ⟨b, i * 2, none⟩ = false := frozen_of_row w2 b _ _ _ hcu
          have f0' : w2.frozen? ⟨b, i * 2 + 1, none⟩ = false := frozen_of_row w2 b _ _ _ hcu
          have hset := own_set2 hown2 (i := i) (by omega) (.slice kp l[j].1.length kc) (.slice wp l[j].2.length wc)
          dsimp only
          iterate 60 (first | at_builtin | go_step | skip)
          have xs : Ext [b] w2 ((w2.setCell ⟨b, i * 2, none⟩ (.slice kp l[j].1.length kc)).setCell ⟨b, i * 2 + 1, none⟩ (.slice wp l[j].2.length wc)) := ((Ext.refl [b] w2).setCell (fun _ => by simp) _).setCell (fun _ => by simp) _
          have hbt2 : ∀ q ∈ [b], ∀ cs fr, w2.heap[q]? ≠ some (.cells cs 5 fr) := fun q hq => own_other (U := 5) hown2 (by decide) q (by simpa [Value.ownBlock] using hq)
          refine ⟨⟨i + 1, j + 1, hs'.set i (.slice kp l[j].1.length kc, .slice wp l[j].2.length wc), by omega, by omega, by simp, by simp, by rw [List.length_set]; exact HHL.out, hset, ?_, ?_, (hx.then (xa.then x2)).same xs⟩, by simp [intOf]; omega⟩
          · have e1 : (hs'.set i (.slice kp l[j].1.length kc, .slice wp l[j].2.length wc)).take (i + 1) = hs'.take i ++ [(.slice kp l[j].1.length kc, .slice wp l[j].2.length wc)] := by
              rw [List.take_succ_eq_append_getElem (by rw [List.length_set]; exact hi2), List.take_set_of_le (Nat.le_refl i)]
              simp
            rw [e1, HT.out, List.filter_append]
            have e2 : [l[j]].filter (fun p => !(alook ch p.1).isSome) = [l[j]] := by rw [List.filter_cons, HQ.out]; simp
            rw [e2]
            exact ((HR1.out.imp fun _ _ q => q.ext (xa.then x2) (by simp)).append (Rel2.one (show PairH w2 _ l[j] from ⟨(h1.then xa).then x2, (h2.then xa).then x2⟩))).imp fun _ _ q => q.ext xs hbt2
          · have := ((HR2.out.drop 1).imp fun _ _ q => q.ext (xa.then x2) (by simp)).imp fun _ _ q => q.ext xs hbt2
            rw [List.drop_set_of_lt (by omega)]
            simpa [List.drop_drop] using this
      · have e : j = l.length := by omega
        subst e
        obtain ⟨w3, hu, ho3, hx3⟩ := run_clear_rest hown (i := i) (by omega) (vc - i)
        iterate 60 (first | at_builtin | go_step | skip)
        go_ret
        refine ⟨_, rfl, ⟨hs'.take i, ?_, ?_⟩, hx.same hx3⟩
        · have e1 : (l.filter fun p => !(alook ch p.1).isSome).length = i := by
            have := hr1.length
            rw [List.take_length] at this
            rw [← this, List.length_take]; omega
          have e2 : (cells2 hs').take (i * 2) = cells2 (hs'.take i) := by
            conv => lhs; rw [← List.take_append_drop i hs', cells2_append]
            rw [List.take_left']
            rw [cells2_length, List.length_take]; omega
          rw [e1, ← e2]
          exact ho3
        · rw [List.take_length] at hr1
          have hbt3 : ∀ q ∈ [b], ∀ cs fr, wr.heap[q]? ≠ some (.cells cs 5 fr) := fun q hq => own_other (U := 5) hown (by decide) q (by simpa [Value.ownBlock] using hq)
          exact hr1.imp fun _ _ q => q.ext hx3 hbt3
end Go.Proofs.YtbbfgbkbdhghbaaGreatDoor

set_option linter.unusedVariables false
set_option linter.unusedSimpArgs false
set_option linter.unusedSectionVars false
namespace Go.Proofs.YtbbfgbkbdhghbaaGreatDoor
open Go.RowKit Go.Sort

section
variable {α : Type} [Inhabited α] {enc : α → List Value} {k : Nat}

theorem flat_get (hk : ∀ x, (enc x).length = k) (h0 : 0 < k) : ∀ (ds : List α) (t : Nat), t < ds.length * k → (ds.flatMap enc)[t]? = some ((enc (ds.toArray[t / k]!))[t % k]!) := by
  intro ds
  induction ds with
  | nil => intro t ht; simp at ht
  | cons a ds ih =>
    intro t ht
    rw [List.flatMap_cons]
    by_cases hlt : t < k
    · rw [List.getElem?_append_left (by rw [hk]; exact hlt)]
      have e1 : t / k = 0 := Nat.div_eq_of_lt hlt
      have e2 : t % k = t := Nat.mod_eq_of_lt hlt
      rw [e1, e2]
      have : t < (enc a).length := by rw [hk]; exact hlt
      simp [this]
    · have hlen : (a :: ds).length * k = ds.length * k + k := by rw [List.length_cons, Nat.add_mul, Nat.one_mul]
      rw [List.getElem?_append_right (by rw [hk]; omega), hk, ih (t - k) (by omega)]
      have e1 : t / k = (t - k) / k + 1 := by rw [Nat.div_eq t k]; simp [h0, Nat.le_of_not_lt hlt]
      have e2 : t % k = (t - k) % k := by rw [Nat.mod_eq t k]; simp [h0, Nat.le_of_not_lt hlt]
      rw [e1, e2]
      have e3 : (a :: ds).toArray[(t - k) / k + 1]! = ds.toArray[(t - k) / k]! := by simp
      rw [e3]
theorem flat_length (hk : ∀ x, (enc x).length = k) (ds : List α) : (ds.flatMap enc).length = ds.length * k := by
  induction ds with
  | nil => simp
  | cons a ds ih => rw [List.flatMap_cons, List.length_append, hk, ih, List.length_cons, Nat.add_mul]; omega
theorem flatK_list (hk : ∀ x, (enc x).length = k) (h0 : 0 < k) (ds : List α) : (flatK enc k ds.toArray).toList = ds.flatMap enc := by
  apply List.ext_getElem?
  intro t
  by_cases ht : t < ds.length * k
  · rw [flat_get hk h0 ds t ht]
    have := get_flatK enc k ds.toArray t (by simpa using ht)
    rw [← this]
    have hs : t < (flatK enc k ds.toArray).size := by simpa using ht
    rw [Array.getElem?_toList, Array.getElem?_eq_getElem hs, getElem!_pos _ t hs]
  · rw [List.getElem?_eq_none (by simp; omega), List.getElem?_eq_none (by rw [flat_length hk]; omega)]

theorem holdsK_own (hk : ∀ x, (enc x).length = k) (h0 : 0 < k) {w : World} {base T g cap n : Nat} {ds : List α} (h : w.ownsRow base T k (.slice (some ⟨g, 0, none⟩) n cap) n (ds.flatMap enc)) :
    HoldsK enc k w g 0 ds.toArray := by
  obtain ⟨hl, ⟨q, _⟩ | ⟨g', cap', cur, hv, hb, hg, h1, h2, h3, h4⟩⟩ := h
  · cases q
  · cases hv
    intro j hj
    have hjl : j < ds.length * k := by simpa using hj
    rw [flat_length hk] at hl
    refine ⟨?_, by simp [World.frozen?, hg]⟩
    have e1 := flat_get hk h0 ds j hjl
    rw [← h4, List.getElem?_take_of_lt (by omega), Array.getElem?_toList] at e1
    rw [Nat.zero_add]
    simp only [World.cell?, hg, Option.isSome_none, Bool.false_eq_true, if_false]
    rw [e1, get_flatK enc k ds.toArray j (by simpa using hjl)]
    rfl

theorem ext_sortWorldK {w : World} {g m : Nat} (hg : g < w.heap.size) (d' : Array α) (os : Array Obj) : Ext [g] w (sortWorldK enc k w g 0 m d' os) := by
  refine ⟨rfl, rfl, rfl, by simp [sortWorldK, putRowK, putRow, mapBlock, Sort.ahead, grow], fun b hb hm => ?_⟩
  unfold sortWorldK
  rw [heap_grow_old _ _ (by simpa [putRowK, putRow, mapBlock, Sort.ahead] using hb)]
  have : g ≠ b := fun e => hm (by simp [e])
  simp [putRowK, putRow, mapBlock, Sort.ahead, Array.getElem?_modify, this]

theorem own_sortK (hk : ∀ x, (enc x).length = k) (h0 : 0 < k) {w : World} {base T g cap n : Nat} {ds : List α} (h : w.ownsRow base T k (.slice (some ⟨g, 0, none⟩) n cap) n (ds.flatMap enc))
    (ds' : List α) (hl' : ds'.length = ds.length) (m : Nat) (os : Array Obj) : (sortWorldK enc k w g 0 m ds'.toArray os).ownsRow base T k (.slice (some ⟨g, 0, none⟩) n cap) n (ds'.flatMap enc) := by
  obtain ⟨hl, ⟨q, _⟩ | ⟨g', cap', cur, hv, hb, hg, h1, h2, h3, h4⟩⟩ := h
  · cases q
  · cases hv
    rw [flat_length hk] at hl
    have hgl : g < w.heap.size := (Array.getElem?_eq_some_iff.1 hg).1
    refine ⟨by rw [flat_length hk, hl']; exact hl, .inr ⟨g, cap, putCells id 0 (flatK enc k ds'.toArray) cur, rfl, hb, ?_, h1, h2, by simp [putCells, h3], ?_⟩⟩
    · unfold sortWorldK
      rw [heap_grow_old _ _ (by simpa [putRowK, putRow, mapBlock, Sort.ahead] using hgl)]
      simp [putRowK, putRow, mapBlock, Sort.ahead, Array.getElem?_modify, hg, onCells]
    · rw [← flatK_list hk h0]
      apply List.ext_getElem?
      intro j
      have hsz : (flatK enc k ds'.toArray).size = n * k := by simp; rw [hl', hl]
      have hcn : n * k ≤ cap * k := Nat.mul_le_mul_right k h1
      by_cases hj : j < n * k
      · have hs : j < (flatK enc k ds'.toArray).size := by omega
        rw [List.getElem?_take_of_lt hj, Array.getElem?_toList, Array.getElem?_toList]
        simp [putCells, show j < cur.size by omega, hj, hsz, hs]
      · rw [List.getElem?_take_eq_none (by omega), List.getElem?_eq_none (by simp only [Array.length_toList]; omega)]
end
end Go.Proofs.YtbbfgbkbdhghbaaGreatDoor
