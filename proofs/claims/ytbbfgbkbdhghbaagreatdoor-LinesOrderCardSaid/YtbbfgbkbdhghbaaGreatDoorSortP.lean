/-
  slices.SortFunc over pairs, by their keys.
-/
import Derived.Test.YtbbfgbkbdhghbaaGreatDoorScan4
import Derived.Test.YtbbfgbkbdhghbaaGreatDoorSortK
import Derived.Test.YtbbfgbkbdhghbaaGreatDoorShelfP
set_option linter.unusedVariables false
set_option linter.unusedSimpArgs false
namespace Go.Proofs.YtbbfgbkbdhghbaaGreatDoor
open Go.RowKit Go.Sort

/-- two headers, and the bytes that they lead to in w -/
abbrev PairIn (w : World) : Type := { x : (Value × Value) × (Bytes × Bytes) // PairH w x.1 x.2 }
instance (w : World) : Inhabited (PairIn w) := ⟨⟨((.slice none 0 0, .slice none 0 0), ([], [])), ⟨Sl.nil w _, Sl.nil w _⟩⟩⟩
def encP (w : World) (x : PairIn w) : List Value := [x.1.1.1, x.1.1.2]
def cmpP (w : World) (x y : PairIn w) : Int := cmpB x.1.2.1 y.1.2.1

theorem ltP (w : World) (x y : PairIn w) : ltOf (cmpP w) x y = decide (x.1.2.1 < y.1.2.1) := by
  unfold ltOf cmpP cmpB
  by_cases h1 : x.1.2.1 < y.1.2.1
  · simp [h1]
  · by_cases h2 : y.1.2.1 < x.1.2.1 <;> simp [h1, h2]
theorem swoP (w : World) : SWO (ltOf (cmpP w)) where
  irrefl x := by rw [ltP]; simp [blt_irrefl]
  trans x y z h1 h2 := by
    rw [ltP] at *
    simp only [decide_eq_true_eq] at *
    exact blt_trans h1 h2
  ntrans x y z h1 h2 := by
    rw [ltP] at *
    simp only [decide_eq_false_iff_not] at *
    exact fun h => by
      have a := List.not_lt.1 h1
      have b := List.not_lt.1 h2
      exact (List.not_lt.2 (List.le_trans b a)) h

theorem scan_2 {W : World} {k1 v1 k2 v2 : Value} {a b c d : Bytes} (h1 : Bs 5 W k1 a) (h2 : Bs 5 W v1 b) (h3 : Bs 5 W k2 c) (h4 : Bs 5 W v2 d) :
    Calls Tryz.prog 88 #[.agg #[k1, v1], .agg #[k2, v2]] W fun e w' => e = .returned (.int .i64 (cmpB a c)) ∧ ∃ os, w' = grow W os := by
  obtain ⟨p1, c1, rfl, _, _⟩ := h1.shape
  obtain ⟨p2, c2, rfl, _, _⟩ := h2.shape
  obtain ⟨p3, c3, rfl, _, _⟩ := h3.shape
  obtain ⟨p4, c4, rfl, _, _⟩ := h4.shape
  have x := ((Ext.refl [] W).alloc (.cells #[.slice p1 a.length c1, .slice p2 b.length c2] 95)).alloc (.cells #[.slice p3 c.length c3, .slice p4 d.length c4] 95)
  have hC := bytes_Compare _ _ _ _ _ (h1.then x) (h3.then x)
  generalize cmpB a c = r at hC ⊢
  clear h1 h2 h3 h4
  go_enter Tryz.func88, Tryz.ntmps88
  go_wp2_with (go_at_call 89; refine hC.mono ?_; rintro e w' ⟨rfl, rfl⟩)
  go_ret
  exact ⟨rfl, _, by rw [alloc_eq_grow, alloc_eq_grow, grow_grow]⟩

theorem Rel2.sub {w : World} : ∀ {hs : List (Value × Value)} {l : Tbl}, Rel2 (PairH w) hs l → ∃ ds : List (PairIn w), ds.map (·.1.1) = hs ∧ ds.map (·.1.2) = l
  | [], [], _ => ⟨[], rfl, rfl⟩
  | h :: hs, p :: l, ⟨h1, h2⟩ => by
    obtain ⟨ds, e1, e2⟩ := Rel2.sub h2
    exact ⟨⟨(h, p), h1⟩ :: ds, by simp [e1], by simp [e2]⟩
  | [], _ :: _, h => h.elim
  | _ :: _, [], h => h.elim
theorem rel_of_sub {w : World} (ds : List (PairIn w)) : Rel2 (PairH w) (ds.map (·.1.1)) (ds.map (·.1.2)) := by
  induction ds with
  | nil => trivial
  | cons d ds ih => exact ⟨d.2, ih⟩
theorem cells2_enc {w : World} (ds : List (PairIn w)) : cells2 (ds.map (·.1.1)) = ds.flatMap (encP w) := by
  induction ds with
  | nil => rfl
  | cons d ds ih => simp only [List.map_cons, cells2, List.flatMap_cons] at ih ⊢; rw [ih]; rfl

theorem pairs_Sort {base : Nat} {w : World} {v : Value} {l : Tbl} (hv : OwnP base w v l) (hl : l.length ≤ 1099511627776) :
    Calls Tryz.prog 87 #[v, .func (.func 88) #[] #[]] w fun e w' => e = .returned (.tuple #[]) ∧ ∃ l', OwnP base w' v l' ∧ l'.Perm l ∧ l'.Pairwise (fun a b => ¬ b.1 < a.1) ∧ Ext v.ownBlock.toList w w' := by
  obtain ⟨hs, ho, hrel⟩ := hv
  obtain ⟨ds, e1, e2⟩ := Rel2.sub hrel
  have ho' := ho
  obtain ⟨hlen, ⟨rfl, h0⟩ | ⟨g, cap, cur, rfl, hbg, hg, hnc, hcm, hcs, htake⟩⟩ := ho
  · have : l = [] := List.eq_nil_of_length_eq_zero h0
    subst this
    refine (AnyF.slices_SortFunc_none Tryz.sortPairs none 0 _ w).mono ?_
    rintro e w' ⟨rfl, rfl⟩
    exact ⟨rfl, [], ⟨hs, ho', hrel⟩, List.Perm.refl _, List.Pairwise.nil, Ext.refl _ _⟩
  · have hgl : g < w.heap.size := (Array.getElem?_eq_some_iff.1 hg).1
    have hdl : ds.length = l.length := by rw [← e2]; simp
    have hk : ∀ x : PairIn w, (encP w x).length = 2 := fun _ => rfl
    have hone : ∀ x : PairIn w, ∀ v ∈ encP w x, v.oneCell' = true := by
      rintro ⟨⟨⟨a, b⟩, p, q⟩, ha, hb⟩ v hv
      obtain ⟨_, _, ea, _, _⟩ := ha.shape
      obtain ⟨_, _, eb, _, _⟩ := hb.shape
      simp only at ea eb
      simp [encP] at hv
      rcases hv with rfl | rfl
      · rw [ea]; rfl
      · rw [eb]; rfl
    rw [← e1, cells2_enc] at ho'
    have hH := holdsK_own hk (by decide) ho'
    have hsz : ds.toArray.size < 4611686018427387904 := by simp; omega
    have eg : ∀ args w, (callFunc 88 args).run Tryz.prog w = .ok (.enter 88 args) w := enters_of Tryz.func88 (by kernel_rfl) rfl
    have hcmp : CmpLays Tryz.prog 88 #[] (encP w) 2 (cmpP w) g 0 ds.toArray.size w := by
      intro m os dk _ x y
      have xx := ext_sortWorldK (enc := encP w) (k := 2) (m := m) hgl dk os
      have hbt : ∀ b ∈ [g], ∀ cs fr, w.heap[b]? ≠ some (.cells cs 5 fr) := fun b hb => own_other (U := 5) ho' (by decide) b (by simpa [Value.ownBlock] using hb)
      refine (scan_2 (x.2.1.sl.ext xx hbt) (x.2.2.sl.ext xx hbt) (y.2.1.sl.ext xx hbt) (y.2.2.sl.ext xx hbt)).mono ?_
      rintro e w' ⟨rfl, os', rfl⟩
      exact ⟨rfl, 0, os', rfl⟩
    have hcon := AnyQ.slices_SortFunc Tryz.sortPairs 2 Tryz.isAgg95 Tryz.sizeOf95 (encP w) hk hone (cmpP w) (swoP w) 88 #[] g 0 cap ds.toArray w eg hcmp hH hgl hsz
    rw [show ds.toArray.size = l.length by simpa using hdl] at hcon
    refine hcon.mono ?_
    rintro e w' ⟨rfl, d', n, os, hp, hsd, rfl⟩
    have hd' : d'.size = l.length := by rw [hp.1]; simpa using hdl
    have hperm : d'.toList.Perm ds := by
      have := hp.2.2
      rw [show d'.extract 0 l.length = d' by rw [← hd']; simp, show ds.toArray.extract 0 l.length = ds.toArray by rw [← hdl]; simp] at this
      simpa using this
    have hown := own_sortK hk (by decide) ho' d'.toList (by simp; rw [hd', hdl]) n os
    simp only [Array.toArray_toList] at hown
    have xx := ext_sortWorldK (enc := encP w) (k := 2) (m := n) hgl d' os
    have hbt : ∀ b ∈ [g], ∀ cs fr, w.heap[b]? ≠ some (.cells cs 5 fr) := fun b hb => own_other (U := 5) ho' (by decide) b (by simpa [Value.ownBlock] using hb)
    refine ⟨rfl, d'.toList.map (·.1.2), ⟨d'.toList.map (·.1.1), ?_, (rel_of_sub d'.toList).imp fun _ _ q => q.ext xx hbt⟩, ?_, ?_, xx⟩
    · rw [cells2_enc]
      simpa [hd'] using hown
    · rw [← e2]; exact hperm.map _
    · rw [List.pairwise_map, List.pairwise_iff_getElem]
      intro i j hi hj hij
      have := hsd i j (Nat.zero_le _) hij (by simp at hj; omega)
      rw [ltP] at this
      simp only [decide_eq_false_iff_not] at this
      have gi : d'[i]! = d'.toList[i] := by simp at hi; simp [hi]
      have gj : d'[j]! = d'.toList[j] := by simp at hj; simp [hj]
      rw [gi, gj] at this
      exact this
end Go.Proofs.YtbbfgbkbdhghbaaGreatDoor
