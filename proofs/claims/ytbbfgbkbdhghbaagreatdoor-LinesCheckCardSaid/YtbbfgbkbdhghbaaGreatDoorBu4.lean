/-
  slices.SortFunc over pairs, by their keys.
  view.Scan gives the pairs of the table now whose keys begin so, rising.
  Small literals.
  chart over a view in memory: Fund, Funds, Object, NewFund.
  The document's table: Right, Get and Scan.
  The document's table: Scan and Delete.
  The document's table: Delete.
  A region that draws its order, by an invariant over what has been done: plain laws, no program.
-/
import Derived.Test.YtbbfgbkbdhghbaaGreatDoorBu3
import Derived.Test.YtbbfgbkbdhghbaaGreatDoorShelfP
import Derived.Test.YtbbfgbkbdhghbaaGreatDoorBu1
import Derived.Test.YtbbfgbkbdhghbaaGreatDoorBu2
import Derived.Test.YtbbfgbkbdhghbaaGreatDoorBu0
set_option linter.unusedVariables false
set_option linter.unusedSimpArgs false
namespace Go.Proofs.YtbbfgbkbdhghbaaGreatDoor
open Go.RowKit Go.Sort

/-- two headers, and the bytes that they lead to in w -/
abbrev PairIn (w : World) : Type := { x : (Value × Value) × (Bytes × Bytes) // PairH w x.1 x.2 }
instance (w : World) : Inhabited (PairIn w) := ⟨⟨((.slice none 0 0, .slice none 0 0), ([], [])), ⟨Sl.nil w _, Sl.nil w _⟩⟩⟩
def encP (w : World) (x : PairIn w) : List Value := [x.1.1.1, x.1.1.2]
def cmpP (w : World) (x y : PairIn w) : Int := cmpB x.1.2.1 y.1.2.1

theorem ltP (w : World) (x y : PairIn w) : ltOf (cmpP w) x y = decide (x.1.2.1 < y.1.2.1) := by
  unfold ltOf cmpP cmpB
  by_cases h1 : x.1.2.1 < y.1.2.1
  · simp [h1]
  · by_cases h2 : y.1.2.1 < x.1.2.1 <;> simp [h1, h2]
theorem swoP (w : World) : SWO (ltOf (cmpP w)) where
  irrefl x := by rw [ltP]; simp [blt_irrefl]
  trans x y z h1 h2 := by
    rw [ltP] at *
    simp only [decide_eq_true_eq] at *
    exact blt_trans h1 h2
  ntrans x y z h1 h2 := by
    rw [ltP] at *
    simp only [decide_eq_false_iff_not] at *
    exact fun h => by
      have a := List.not_lt.1 h1
      have b := List.not_lt.1 h2
      exact (List.not_lt.2 (List.le_trans b a)) h

theorem scan_2 {W : World} {k1 v1 k2 v2 : Value} {a b c d : Bytes} (h1 : Bs 5 W k1 a) (h2 : Bs 5 W v1 b) (h3 : Bs 5 W k2 c) (h4 : Bs 5 W v2 d) :
    Calls Tryz.prog 88 #[.agg #[k1, v1], .agg #[k2, v2]] W fun e w' => e = .returned (.int .i64 (cmpB a c)) ∧ ∃ os, w' = grow W os := by
  obtain ⟨p1, c1, rfl, _, _⟩ := h1.shape
  obtain ⟨p2, c2, rfl, _, _⟩ := h2.shape
  obtain ⟨p3, c3, rfl, _, _⟩ := h3.shape
  obtain ⟨p4, c4, rfl, _, _⟩ := h4.shape
  have x := ((Ext.refl [] W).alloc (.cells #[.slice p1 a.length c1, .slice p2 b.length c2] 95)).alloc (.cells #[.slice p3 c.length c3, .slice p4 d.length c4] 95)
  have hC := bytes_Compare _ _ _ _ _ (h1.then x) (h3.then x)
  generalize cmpB a c = r at hC ⊢
  clear h1 h2 h3 h4
  go_enter Tryz.func88, Tryz.ntmps88
  go_wp2_with (go_at_call 89; refine hC.mono ?_; rintro e w' ⟨rfl, rfl⟩)
  go_ret
  exact ⟨rfl, _, by rw [alloc_eq_grow, alloc_eq_grow, grow_grow]⟩

theorem Rel2.sub {w : World} : ∀ {hs : List (Value × Value)} {l : Tbl}, Rel2 (PairH w) hs l → ∃ ds : List (PairIn w), ds.map (·.1.1) = hs ∧ ds.map (·.1.2) = l
  | [], [], _ => ⟨[], rfl, rfl⟩
  | h :: hs, p :: l, ⟨h1, h2⟩ => by
    obtain ⟨ds, e1, e2⟩ := Rel2.sub h2
    exact ⟨⟨(h, p), h1⟩ :: ds, by simp [e1], by simp [e2]⟩
  | [], _ :: _, h => h.elim
  | _ :: _, [], h => h.elim
theorem rel_of_sub {w : World} (ds : List (PairIn w)) : Rel2 (PairH w) (ds.map (·.1.1)) (ds.map (·.1.2)) := by
  induction ds with
  | nil => trivial
  | cons d ds ih => exact ⟨d.2, ih⟩
theorem cells2_enc {w : World} (ds : List (PairIn w)) : cells2 (ds.map (·.1.1)) = ds.flatMap (encP w) := by
  induction ds with
  | nil => rfl
  | cons d ds ih => simp only [List.map_cons, cells2, List.flatMap_cons] at ih ⊢; rw [ih]; rfl

theorem pairs_Sort {base : Nat} {w : World} {v : Value} {l : Tbl} (hv : OwnP base w v l) (hl : l.length ≤ 1099511627776) :
    Calls Tryz.prog 87 #[v, .func (.func 88) #[] #[]] w fun e w' => e = .returned (.tuple #[]) ∧ ∃ l', OwnP base w' v l' ∧ l'.Perm l ∧ l'.Pairwise (fun a b => ¬ b.1 < a.1) ∧ Ext v.ownBlock.toList w w' := by
  obtain ⟨hs, ho, hrel⟩ := hv
  obtain ⟨ds, e1, e2⟩ := Rel2.sub hrel
  have ho' := ho
  obtain ⟨hlen, ⟨rfl, h0⟩ | ⟨g, cap, cur, rfl, hbg, hg, hnc, hcm, hcs, htake⟩⟩ := ho
  · have : l = [] := List.eq_nil_of_length_eq_zero h0
    subst this
    refine (AnyF.slices_SortFunc_none Tryz.sortPairs none 0 _ w).mono ?_
    rintro e w' ⟨rfl, rfl⟩
    exact ⟨rfl, [], ⟨hs, ho', hrel⟩, List.Perm.refl _, List.Pairwise.nil, Ext.refl _ _⟩
  · have hgl : g < w.heap.size := (Array.getElem?_eq_some_iff.1 hg).1
    have hdl : ds.length = l.length := by rw [← e2]; simp
    have hk : ∀ x : PairIn w, (encP w x).length = 2 := fun _ => rfl
    have hone : ∀ x : PairIn w, ∀ v ∈ encP w x, v.oneCell' = true := by
      rintro ⟨⟨⟨a, b⟩, p, q⟩, ha, hb⟩ v hv
      obtain ⟨_, _, ea, _, _⟩ := ha.shape
      obtain ⟨_, _, eb, _, _⟩ := hb.shape
      simp only at ea eb
      simp [encP] at hv
      rcases hv with rfl | rfl
      · rw [ea]; rfl
      · rw [eb]; rfl
    rw [← e1, cells2_enc] at ho'
    have hH := holdsK_own hk (by decide) ho'
    have hsz : ds.toArray.size < 4611686018427387904 := by simp; omega
    have eg : ∀ args w, (callFunc 88 args).run Tryz.prog w = .ok (.enter 88 args) w := enters_of Tryz.func88 (by kernel_rfl) rfl
    have hcmp : CmpLays Tryz.prog 88 #[] (encP w) 2 (cmpP w) g 0 ds.toArray.size w := by
      intro m os dk _ x y
      have xx := ext_sortWorldK (enc := encP w) (k := 2) (m := m) hgl dk os
      have hbt : ∀ b ∈ [g], ∀ cs fr, w.heap[b]? ≠ some (.cells cs 5 fr) := fun b hb => own_other (U := 5) ho' (by decide) b (by simpa [Value.ownBlock] using hb)
      refine (scan_2 (x.2.1.sl.ext xx hbt) (x.2.2.sl.ext xx hbt) (y.2.1.sl.ext xx hbt) (y.2.2.sl.ext xx hbt)).mono ?_
      rintro e w' ⟨rfl, os', rfl⟩
      exact ⟨rfl, 0, os', rfl⟩
    have hcon := AnyQ.slices_SortFunc Tryz.sortPairs 2 Tryz.isAgg95 Tryz.sizeOf95 (encP w) hk hone (cmpP w) (swoP w) 88 #[] g 0 cap ds.toArray w eg hcmp hH hgl hsz
    rw [show ds.toArray.size = l.length by simpa using hdl] at hcon
    refine hcon.mono ?_
    rintro e w' ⟨rfl, d', n, os, hp, hsd, rfl⟩
    have hd' : d'.size = l.length := by rw [hp.1]; simpa using hdl
    have hperm : d'.toList.Perm ds := by
      have := hp.2.2
      rw [show d'.extract 0 l.length = d' by rw [← hd']; simp, show ds.toArray.extract 0 l.length = ds.toArray by rw [← hdl]; simp] at this
      simpa using this
    have hown := own_sortK hk (by decide) ho' d'.toList (by simp; rw [hd', hdl]) n os
    simp only [Array.toArray_toList] at hown
    have xx := ext_sortWorldK (enc := encP w) (k := 2) (m := n) hgl d' os
    have hbt : ∀ b ∈ [g], ∀ cs fr, w.heap[b]? ≠ some (.cells cs 5 fr) := fun b hb => own_other (U := 5) ho' (by decide) b (by simpa [Value.ownBlock] using hb)
    refine ⟨rfl, d'.toList.map (·.1.2), ⟨d'.toList.map (·.1.1), ?_, (rel_of_sub d'.toList).imp fun _ _ q => q.ext xx hbt⟩, ?_, ?_, xx⟩
    · rw [cells2_enc]
      simpa [hd'] using hown
    · rw [← e2]; exact hperm.map _
    · rw [List.pairwise_map, List.pairwise_iff_getElem]
      intro i j hi hj hij
      have := hsd i j (Nat.zero_le _) hij (by simp at hj; omega)
      rw [ltP] at this
      simp only [decide_eq_false_iff_not] at this
      have gi : d'[i]! = d'.toList[i] := by simp at hi; simp [hi]
      have gj : d'[j]! = d'.toList[j] := by simp at hj; simp [hj]
      rw [gi, gj] at this
      exact this
end Go.Proofs.YtbbfgbkbdhghbaaGreatDoor

set_option linter.unusedVariables false
set_option linter.unusedSimpArgs false
namespace Go.Proofs.YtbbfgbkbdhghbaaGreatDoor
open Go.RowKit

theorem OwnP.fresh {base : Nat} {w : World} {v : Value} {l : Tbl} (h : OwnP base w v l) : ∀ b, v.ownBlock = some b → base ≤ b ∧ b < w.heap.size := by
  obtain ⟨_, q, _⟩ := h
  exact fun b hb => q.lt b hb

/-- what a scan has found, once all was gone through -/
theorem scan_all {was now : Tbl} {p : Bytes} {ch : List (Bytes × Value)} {D B L S : Tbl} (hn : Sorted now) (hnd : (ch.map (·.1)).Nodup)
    (hB : (B.map (·.1)).Nodup) (hBm : ∀ k v, (k, v) ∈ B ↔ tget was k = some v ∧ p <+: k) (hD : D = B.filter fun q => !(alook ch q.1).isSome)
    (hout : ∀ k, k ∉ ch.map (·.1) → tget now k = tget was k)
    (hperm : (L.map (·.1)).Perm (D.map (·.1) ++ (ch.filter (fun q => p.isPrefixOf q.1 && (tget now q.1).isSome)).map (·.1))) (hall : ∀ q ∈ L, tget now q.1 = some q.2)
    (hS : S.Perm L) (hs : S.Pairwise (fun a b => ¬ b.1 < a.1)) : S = tscan now p := by
  have hDk : ∀ k, k ∈ D.map (·.1) ↔ k ∉ ch.map (·.1) ∧ (tget was k).isSome ∧ p <+: k := by
    intro k
    rw [hD]
    simp only [List.mem_map, List.mem_filter]
    constructor
    · rintro ⟨⟨k', v⟩, ⟨h1, h2⟩, rfl⟩
      have := (hBm _ _).1 h1
      refine ⟨?_, by rw [this.1]; rfl, this.2⟩
      have : alook ch k' = none := by simpa using h2
      simpa using alook_none_iff.1 this
    · rintro ⟨h1, h2, h3⟩
      obtain ⟨v, hv⟩ := Option.isSome_iff_exists.1 h2
      have h4 : alook ch k = none := alook_none_iff.2 (by simpa using h1)
      exact ⟨(k, v), ⟨(hBm _ _).2 ⟨hv, h3⟩, by simp [h4]⟩, rfl⟩
  have hLk : ∀ k, k ∈ L.map (·.1) ↔ (tget now k).isSome ∧ p <+: k := by
    intro k
    rw [hperm.mem_iff, List.mem_append, hDk]
    constructor
    · rintro (⟨h1, h2, h3⟩ | h)
      · exact ⟨by rw [hout k h1]; exact h2, h3⟩
      · obtain ⟨q, hq, rfl⟩ := List.mem_map.1 h
        have := (List.mem_filter.1 hq).2
        simp only [Bool.and_eq_true, List.isPrefixOf_iff_prefix] at this
        exact ⟨this.2, this.1⟩
    · rintro ⟨h1, h2⟩
      by_cases hk : k ∈ ch.map (·.1)
      · right
        obtain ⟨q, hq, rfl⟩ := List.mem_map.1 hk
        exact List.mem_map.2 ⟨q, List.mem_filter.2 ⟨hq, by simp only [Bool.and_eq_true, List.isPrefixOf_iff_prefix]; exact ⟨h2, h1⟩⟩, rfl⟩
      · exact .inl ⟨hk, by rw [← hout k hk]; exact h1, h2⟩
  have hLn : (L.map (·.1)).Nodup := by
    rw [hperm.nodup_iff, List.nodup_append]
    refine ⟨?_, (List.filter_sublist.map _).nodup hnd, ?_⟩
    · rw [hD]; exact (List.filter_sublist.map _).nodup hB
    · intro a ha b hb e
      subst e
      refine ((hDk a).1 ha).1 ?_
      obtain ⟨q, hq, rfl⟩ := List.mem_map.1 hb
      exact List.mem_map.2 ⟨q, (List.mem_filter.1 hq).1, rfl⟩
  have hSn : (S.map (·.1)).Nodup := (hS.map _).nodup_iff.2 hLn
  refine tscan_of_perm hn hS (sorted_of_le hs hSn) ?_ fun k v => ?_
  · exact List.Pairwise.imp (S := fun a b => a ≠ b) (fun h e => h (by rw [e])) (List.pairwise_map.1 hLn)
  · rw [List.isPrefixOf_iff_prefix]
    constructor
    · intro h
      exact ⟨hall _ h, ((hLk k).1 (List.mem_map.2 ⟨_, h, rfl⟩)).2⟩
    · rintro ⟨h1, h2⟩
      obtain ⟨⟨k', v'⟩, hq, e⟩ := List.mem_map.1 ((hLk k).2 ⟨by rw [h1]; rfl, h2⟩)
      simp at e
      subst e
      have := hall _ hq
      simp only at this
      rw [h1] at this
      injection this with this
      rw [this]; exact hq

set_option maxHeartbeats 2000000 in
theorem view_Scan {U : TypeId} {w : World} {V : VW} {n : Nat} {was now : Tbl} (h : IsView w V n was now) (hn : n ≤ 137438953472) (pv : Value) (p : Bytes) (hp : Bs U w pv p) :
    Calls Tryz.prog 64 #[.pointer (some ⟨V.s, 0, none⟩), pv] w fun e w' => ∃ r, e = .returned r ∧ OwnP w.heap.size w' r (tscan now p) ∧ Ext [] w w' := by
  obtain ⟨c0, c1, c2, c3⟩ := h.cell
  have hlt := h.lt
  have h' := h
  obtain ⟨ch, me, chx, mex, hc, hm, ec, em, hn2, hwas, hnow, hkl⟩ := h'.maps
  have hcl := ec.length
  have HN := Lib.hid hnow
  have HK := Lib.hid hkl
  have HWas := Lib.hid hwas
  have HL := Lib.hid (show ch.length ≤ n by omega)
  have HND := Lib.hid hc.nodup
  have HC := Lib.hid hc
  have HE := Lib.hid ec
  clear hwas hnow hkl hcl hn2 hm em h'
  have x0 := (Ext.refl [] w).alloc (.cells #[.pointer (some ⟨V.s, 0, none⟩)] 26)
  have hsz0 : (w.alloc (.cells #[.pointer (some ⟨V.s, 0, none⟩)] 26)).heap.size = w.heap.size + 1 := by simp
  have hbx : (w.alloc (.cells #[.pointer (some ⟨V.s, 0, none⟩)] 26)).cell? ⟨w.heap.size, 0, none⟩ = some (.pointer (some ⟨V.s, 0, none⟩)) := by simp only [World.cell?, heap_alloc_new]; rfl
  have hR := view_ready (h.then x0)
  have hBase := view_base (h.then x0) (by omega) pv p (hp.then x0)
  go_enter Tryz.func64, Tryz.ntmps64
  iterate 20 (first | at_builtin | go_step | skip)
  go_at_call 49
  refine hR.mono ?_
  rintro e w' ⟨rfl, rfl⟩
  dsimp only
  iterate 60 (first | at_builtin | go_step | skip)
  go_at_call 84
  refine hBase.mono ?_
  rintro e w1 ⟨r1, B, rfl, hB, x1, hBn, hBl, hBm⟩
  obtain ⟨hsB, hoB, _⟩ := hB.rd
  have x01 := x0.then x1
  have hD := pairs_DeleteFunc (x1.cell (by simp) hbx) (x01.cell (by simp) c0) (hc.ext x01 (by simp)) (ec.imp fun _ _ q => q.ext x01 (by simp)) hB (by omega) (by omega) (by omega)
  have hBf := hB.fresh
  dsimp only
  iterate 60 (first | at_builtin | go_step | skip)
  go_at_call 83
  refine hD.mono ?_
  rintro e w2 ⟨r2, rfl, hD2, x2⟩
  clear hD hR hBase
  have xw2 : Ext [] w w2 := x01.trans x2 (fun b hb hlt' => by have := (hBf b (by simpa using hb)).1; omega)
  have hbx2 := x2.cell (fun hm => by have := (hBf _ (by simpa using hm)).1; omega) (x1.cell (by simp) hbx)
  have hv2 := h.then xw2
  obtain ⟨d0, d1, d2, d3⟩ := hv2.cell
  have hc2 := hc.ext xw2 (by simp)
  obtain ⟨D, hDe⟩ : ∃ D, D = B.filter (fun q => !(alook ch q.1).isSome) := ⟨_, rfl⟩
  rw [← hDe] at hD2
  have hDl : D.length ≤ n := by rw [hDe]; exact Nat.le_trans (List.length_filter_le _ _) hBl
  have hDm : ∀ q ∈ D, tget now q.1 = some q.2 := by
    intro q hq
    rw [hDe] at hq
    obtain ⟨h1, h2⟩ := List.mem_filter.1 hq
    have h3 := (hBm _ _).1 (show (q.1, q.2) ∈ B from h1)
    have h4 : alook ch q.1 = none := by simpa using h2
    rcases HE.out.look q.1 with ⟨_, e2⟩ | ⟨_, _, e1, _⟩
    · rw [HN.out, e2, ← HWas.out]; exact h3.1
    · rw [h4] at e1; cases e1
  have HDE := Lib.hid hDe
  have HDM := Lib.hid hDm
  have HDL := Lib.hid hDl
  have HBM := Lib.hid hBm
  have HBN := Lib.hid hBn
  obtain ⟨hr, hit⟩ := Iter.start (P := Tryz.prog) hc2 Tryz.underlying47
  have x3 := (Ext.refl [] w2).alloc (.mapIter (some V.c) (hc2.choose_spec.choose) #[] (hc2.choose_spec.choose))
  have hs3 : w2.heap.size < (w2.alloc (.mapIter (some V.c) (hc2.choose_spec.choose) #[] (hc2.choose_spec.choose))).heap.size := by simp
  generalize (w2.alloc (.mapIter (some V.c) (hc2.choose_spec.choose) #[] (hc2.choose_spec.choose))) = w3 at hr hit x3 hs3
  have hs2 := xw2.size
  clear hBl hBm hBn hDe hDl hDm c0 c1 c2 c3 hbx hB hBf hsz0 x1 x01 x2 hoB hc ec
  dsimp only
  iterate 60 (first | at_builtin | go_step | skip)
  go_loopw [5] (fun v wr => ∃ L left, OwnP (w.heap.size + 1) wr v L ∧ (∀ b, v.ownBlock = some b → b ≠ w2.heap.size) ∧ Iter strEnc wr w2.heap.size V.c ch left ∧
    (L.map (·.1) ++ (left.filter (fun q => p.isPrefixOf q.1 && (tget now q.1).isSome)).map (·.1)).Perm (D.map (·.1) ++ (ch.filter (fun q => p.isPrefixOf q.1 && (tget now q.1).isSome)).map (·.1)) ∧
    (∀ q ∈ L, tget now q.1 = some q.2) ∧ Ext [] w wr ∧ w2.heap.size < wr.heap.size) (fun _ wr => iterLeft wr w2.heap.size)
  case atStart =>
    refine ⟨D, ch, (hD2.then x3).rebase (by simp), fun b hb => ?_, hit, List.Perm.refl _, HDM.out, xw2.then x3, hs3⟩
    have := (hD2.fresh b hb).2
    omega
  case round =>
    obtain ⟨L, left, hP, hPi, hi, hperm, hall, hx, hsz⟩ := hrel
    clear hr hit hs3 x3 hD2 hv2 hc2 d0 d1 d2 d3
    have HP := Lib.hid hperm
    have HA := Lib.hid hall
    have hPf := hP.fresh
    have hLl : L.length ≤ 274877906944 := by
      have := hperm.length_eq
      have h2 : (ch.filter (fun q => p.isPrefixOf q.1 && (tget now q.1).isSome)).length ≤ ch.length := List.length_filter_le _ _
      have h3 := HL.out
      have h4 := HDL.out
      simp at this
      omega
    clear hperm hall
    rcases hi.next (P := Tryz.prog) 0 with ⟨h1, h2⟩ | ⟨pre, k, v, post, w4, h1, h2, h3, h4, h5, h6, h7⟩
    · have H1 := Lib.hid h1
      clear h1
      have hSort := pairs_Sort hP (by omega)
      iterate 60 (first | at_builtin | go_step | skip)
      go_at_call 87
      refine hSort.mono ?_
      rintro e w5 ⟨rfl, S, hS, hSp, hSs, x5⟩
      go_wp2_with fail
      go_ret
      have hperm := HP.out
      rw [H1.out] at hperm
      simp only [List.filter_nil, List.map_nil, List.append_nil] at hperm
      have hout : ∀ k, k ∉ ch.map (·.1) → tget now k = tget was k := fun k hk => by
        have h1 := alook_none_iff.2 hk
        rcases HE.out.look k with ⟨_, e2⟩ | ⟨_, _, e1, _⟩
        · rw [HN.out, e2, HWas.out]
        · rw [h1] at e1; cases e1
      have hfin := scan_all h.snow HND.out HBN.out HBM.out HDE.out hout hperm HA.out hSp hSs
      rw [hfin] at hS
      exact ⟨_, rfl, hS.rebase (Nat.le_succ _), hx.trans x5 (fun b hb hlt' => by have := (hPf b (by simpa using hb)).1; omega)⟩
    · change _ = Result.ok (Value.tuple #[Value.bool true, Value.string (str k), v]) w4 at h3
      change _ = Result.ok (Value.tuple #[Value.string (str k), v]) w4 at h4
      have H1 := Lib.hid h1
      have hk := mem_alook HND.out h2
      have hsz4 : w2.heap.size < w4.heap.size := by omega
      have hib : ∀ b ∈ [w2.heap.size], ∀ cs fr, wr.heap[b]? ≠ some (.cells cs 5 fr) := by
        intro b hb cs fr
        simp at hb
        subst hb
        exact hi.ne_cells _ _ _
      have x4 : Ext [] w w4 := hx.trans h6 (fun b hb hlt' => by simp at hb; omega)
      have hP4 : OwnP (w.heap.size + 1) w4 u5 L := hP.ext h6 (fun b hb hm => hPi b hb (by simpa using hm)) hib
      have hcv := run_cvb k
      have hmeas : iterLeft wr w2.heap.size = pre.length + 1 + post.length := by rw [hi.left_eq, h1]; simp; omega
      have HM := Lib.hid hmeas
      have hPf4 := hP4.fresh
      rcases HE.out.look k with ⟨e1, _⟩ | ⟨v', o, e1, e2, hb⟩
      · rw [hk] at e1; cases e1
      rw [hk] at e1
      injection e1 with e1
      subst e1
      have hno : tget now k = o := by rw [HN.out, e2]
      have HO := Lib.hid hno
      have hkl : k.length ≤ 32 := by have := HK.out _ (mem_of_alook e2); simpa using this
      clear h1 h2 h7 hk e2 hno hmeas
      cases o with
      | none =>
        simp only [ShapeV] at hb
        subst hb
        have xa := (Ext.refl [] w4).alloc (.cells #[.slice none 0 0, .bool true] 82)
        iterate 120 (first | at_builtin | go_step | skip)
        go_roundw
        case rel =>
          refine ⟨L, pre ++ post, hP4.then xa, fun b hb => hPi b hb, h5.ext xa (by simp) (by simp), ?_, HA.out, x4.then xa, by have := xa.size; omega⟩
          have := HP.out
          rw [H1.out] at this
          simpa [List.filter_cons, HO.out] using this
        case measure => rw [(h5.ext xa (by simp) (by simp)).left_eq, HM.out]; simp
      | some bs =>
        obtain ⟨vb, rfl, hbb⟩ := hb
        obtain ⟨vp, vc, rfl, hvc1, hvc2⟩ := hbb.shape
        have hbs32 : bs.length ≤ 4294967296 := by have := h.fnow _ (tget_mem HO.out); simp [Fit2] at this; omega
        have xa : Ext [] w4 (w4.alloc (.cells #[.slice vp bs.length vc, .bool false] 82)) := (Ext.refl [] w4).alloc _
        have xc := xa.then (cv_ext k _)
        have hbc := cv_bs k (w4.alloc (.cells #[.slice vp bs.length vc, .bool false] 82)) (by omega)
        rw [show (w4.alloc (.cells #[.slice vp bs.length vc, .bool false] 82)).heap.size = w4.heap.size + 1 by simp] at hbc
        have hpp := hp.then (x4.then xc)
        have s0 : (cvW (w4.alloc (.cells #[.slice vp bs.length vc, .bool false] 82)) k).cell? ⟨w4.heap.size, 0, none⟩ = some (.slice vp bs.length vc) := (cv_ext k _).cell (by simp) (by simp only [World.cell?, heap_alloc_new]; rfl)
        have hH := bytes_HasPrefix _ _ _ _ _ hbc hpp
        cases hpk : p.isPrefixOf k with
        | false =>
          have HQ := Lib.hid hpk
          rw [hpk] at hH
          clear hpk
          iterate 120 (first | at_builtin | go_step | skip)
          go_at_call 86
          refine hH.mono ?_
          rintro e w' ⟨rfl, rfl⟩
          dsimp only
          iterate 120 (first | at_builtin | go_step | skip)
          go_roundw
          case rel =>
            refine ⟨L, pre ++ post, hP4.then xc, fun b hb => hPi b hb, h5.ext xc (by simp) (by simp), ?_, HA.out, x4.then xc, by have := xc.size; omega⟩
            have := HP.out
            rw [H1.out] at this
            simpa [List.filter_cons, HQ.out] using this
          case measure => rw [(h5.ext xc (by simp) (by simp)).left_eq, HM.out]; simp
        | true =>
          have HQ := Lib.hid hpk
          rw [hpk] at hH
          clear hpk
          have xd := cv_ext k (cvW (w4.alloc (.cells #[.slice vp bs.length vc, .bool false] 82)) k)
          have hbd := cv_bs k (cvW (w4.alloc (.cells #[.slice vp bs.length vc, .bool false] 82)) k) (by omega)
          have s1 := xd.cell (by simp) s0
          have hbv := hbb.then (x4.then (xc.then xd))
          iterate 120 (first | at_builtin | go_step | skip)
          go_at_call 86
          refine hH.mono ?_
          rintro e w' ⟨rfl, rfl⟩
          dsimp only
          iterate 120 (first | at_builtin | go_step | skip)
          go_at_call 50
          refine (bytes_Clone _ _ _ hbv hbs32).mono ?_
          rintro e w5 ⟨r2, rfl, hn3, x5⟩
          obtain ⟨rp, rc, rfl, _, _⟩ := hn3.bs.sl.shape
          have xx := (xc.then xd).then x5
          obtain ⟨hs, ho, hrel⟩ := hP4.then xx
          have hbk3 := hbd.then x5
          have hsz3 := xx.size
          dsimp only
          iterate 120 (first | at_builtin | go_step | skip)
          with_reducible refine app1 (k := 2) Tryz.underlying51 row_pair (by decide) ho ?_ ?_ ?_ ?_ ?_ ?_ ?_ ?_
          rfl
          simp [Value.oneCell']
          omega
          omega
          omega
          rfl
          rfl
          intro v1 w6 ho1 hx1 hat
          go_wp2_with fail
          go_roundw
          case rel =>
            have hr1 : w2.heap.size ∉ u5.ownBlock.toList := fun hm => hPi _ (by simpa using hm) rfl
            have hr2 : V.c ∉ u5.ownBlock.toList := fun hm => by have := (hPf4 _ (by simpa using hm)).1; omega
            refine ⟨L ++ [(k, bs)], pre ++ post, OwnP.push (h := (_, _)) ho hrel ⟨hbk3, hn3.bs⟩ ho1 hx1, fun b hb => ?_, (h5.ext xx (by simp) (by simp)).ext hx1 hr2 hr1, ?_, ?_, (x4.then xx).trans hx1 (fun b hb hlt' => by have := (hPf4 b (by simpa using hb)).1; omega), by have := hx1.size; omega⟩
            · rcases hat with hat | ⟨b', hat, hb'⟩
              · exact hPi b (by rw [← hat]; exact hb)
              · rw [hat] at hb; injection hb with hb; omega
            · have := HP.out
              rw [H1.out] at this
              simp only [List.filter_append, List.filter_cons, HQ.out, HO.out, Option.isSome_some, Bool.and_self, if_true, List.map_append, List.map_cons, List.map_nil] at this ⊢
              refine List.Perm.trans ?_ this
              simp
              exact List.Perm.append_left _ List.perm_middle.symm
            · intro q hq
              rcases List.mem_append.1 hq with hq | hq
              · exact HA.out q hq
              · simp at hq; subst hq; exact HO.out
          case measure =>
            have hr1 : w2.heap.size ∉ u5.ownBlock.toList := fun hm => hPi _ (by simpa using hm) rfl
            have hr2 : V.c ∉ u5.ownBlock.toList := fun hm => by have := (hPf4 _ (by simpa using hm)).1; omega
            rw [((h5.ext xx (by simp) (by simp)).ext hx1 hr2 hr1).left_eq, HM.out]; simp
end Go.Proofs.YtbbfgbkbdhghbaaGreatDoor

set_option linter.unusedVariables false
set_option linter.unusedSimpArgs false
namespace Go.Proofs.YtbbfgbkbdhghbaaGreatDoor
open Go.RowKit

theorem lit_one (w : World) (v : Value) : Sl (w.alloc (.cells #[v] 3)) 3 (.slice (some ⟨w.heap.size, 0, none⟩) 1 1) 1 [v] :=
  Sl.lit 3 1 #[v] 1 (by decide) rfl w (by decide)
theorem lit_b1 (w : World) (t : UInt8) : Bs 5 (w.alloc (.cells #[.int .u8 (t.toNat : Int)] 5)) (.slice (some ⟨w.heap.size, 0, none⟩) 1 1) [t] :=
  Sl.lit 5 1 #[.int .u8 (t.toNat : Int)] 1 (by decide) rfl w (by decide)
theorem lit_i1 (w : World) (n : Int) : Is (w.alloc (.cells #[.int .i64 n] 3)) (.slice (some ⟨w.heap.size, 0, none⟩) 1 1) [n] :=
  Sl.lit 3 1 #[.int .i64 n] 1 (by decide) rfl w (by decide)
end Go.Proofs.YtbbfgbkbdhghbaaGreatDoor

set_option linter.unusedVariables false
set_option linter.unusedSimpArgs false
namespace Go.Proofs.YtbbfgbkbdhghbaaGreatDoor
open Go.RowKit
variable {w : World} {V : VW} {n : Nat} {was now : Tbl}

def oneNum (p : Bytes × Bytes) : Option Int := match splitK p.1 with
  | some (_, [n]) => some n
  | _ => none
/-- the numbers that stand in a table -/
def allNums (now : Tbl) (tag : UInt8) : List Int := (tscan now [tag]).filterMap oneNum

theorem chart_all (h : IsView w V n was now) (hn : n ≤ 1048576) (t : UInt8) :
    Calls Tryz.prog 48 #[.pointer (some ⟨V.s, 0, none⟩), .int .u8 (t.toNat : Int)] w fun e w' => ∃ r, e = .returned r ∧ NewI w w' r (allNums now t) ∧ Ext [] w w' := by
  have hlit := lit_b1 w t
  have x0 := (Ext.refl [] w).alloc (.cells #[.int .u8 (t.toNat : Int)] 5)
  go_enter Tryz.func48, Tryz.ntmps48
  iterate 60 (first | at_builtin | go_step | skip)
  go_at_call 64
  refine (view_Scan (h.then x0) (by omega) _ [t] hlit).mono ?_
  rintro e w1 ⟨r1, rfl, o1, x1⟩
  obtain ⟨hs, ho1, hrd⟩ := o1.rd
  obtain ⟨p, c, rfl, g1, g2⟩ := hrd.1.shape
  dsimp only
  have x01 := x0.then x1
  obtain ⟨L, hL⟩ : ∃ L, L = tscan now [t] := ⟨_, rfl⟩
  have hLn : L.length ≤ 1048576 := by rw [hL]; exact Nat.le_trans (List.length_filter_le _ _) (Nat.le_trans h.len hn)
  rw [← hL] at hrd ⊢
  have HL := Lib.hid hL.symm
  clear hL h hlit o1 ho1
  go_wp2_with fail
  go_loopw [5, 16] (fun o s wr => ∃ i : Nat, i ≤ L.length ∧ s = .int .i64 i ∧ NewI w1 wr o ((L.take i).filterMap oneNum) ∧ Ext [] w1 wr) (fun _ s _ => L.length - (intOf s).toNat)
  case atStart => exact ⟨0, Nat.zero_le _, rfl, own_nil _ _ _ _, Ext.refl _ _⟩
  case round =>
    obtain ⟨i, hi, rfl, ho, hx⟩ := hrel
    by_cases hlt : i < L.length
    · obtain ⟨b, off, c', hpp, _⟩ := hrd.1.at (by omega)
      injection hpp with hpp _ hc'
      subst hpp; subst hc'
      obtain ⟨kv, vv, _, f1, f2, hk, hv⟩ := (hrd.then hx).at hlt
      have ya := (Ext.refl [] wr).alloc (.cells #[kv, vv] 95)
      have hka := hk.then ya
      have ho1 := ho.then ya
      have hxa := hx.then ya
      have HF := Lib.hid (show (L.take (i + 1)).filterMap oneNum = (L.take i).filterMap oneNum ++ (oneNum L[i]).toList from filterMap_take hlt)
      have hle : ((L.take i).filterMap oneNum).length ≤ 1048576 := Nat.le_trans (List.length_filterMap_le _ _) (by simp; omega)
      have hsz := hxa.size
      obtain ⟨kp, kc, rfl, _, _⟩ := hk.shape
      obtain ⟨vp, vc, rfl, _, _⟩ := hv.shape
      clear hk hv
      cases hs : splitK L[i].1 with
      | none =>
        have hS := keys_Split_no hka hs
        have HO := Lib.hid (show oneNum L[i] = none by rw [oneNum, hs])
        clear hs
        go_wp2_with (go_at_call 65; refine hS.mono ?_; rintro e w2 ⟨rfl, rfl⟩)
        go_roundw
        case rel => exact ⟨i + 1, by omega, by go_num, by rw [HF.out, HO.out]; simpa using ho1, hxa⟩
        case measure => simp [intOf]; omega
      | some q =>
        obtain ⟨t', m⟩ := q
        have hS := keys_Split hka hs
        by_cases hm : m.length = 1
        · obtain ⟨z, rfl⟩ : ∃ z, m = [z] := by
            match m, hm with
            | [z], _ => exact ⟨z, rfl⟩
          have HO := Lib.hid (show oneNum L[i] = some z by rw [oneNum, hs])
          clear hs hm
          iterate 60 (first | at_builtin | go_step | skip)
          go_at_call 65
          refine hS.mono ?_
          rintro e w2 ⟨r2, rfl, hr2, x2⟩
          obtain ⟨b2, o2, c2, rfl, hrow2⟩ := hr2.is.sl.at (by simp)
          have hcell2 := hrow2.cell (i := 0) (v := .int .i64 z) rfl
          rw [Nat.add_zero] at hcell2
          have ho2 := ho1.then x2
          have hsz2 := x2.size
          dsimp only
          iterate 110 (first | at_builtin | go_step | skip)
          with_reducible refine app1 (k := 1) Tryz.underlying22 row_int (by decide) ho2.own ?_ ?_ ?_ ?_ ?_ ?_ ?_ ?_
          rfl
          exact iv_one [z]
          omega
          omega
          omega
          rfl
          rfl
          intro v1 w3 ho3 hx3 hat
          go_wp2_with fail
          go_roundw
          case rel =>
            refine ⟨i + 1, by omega, by go_num, ?_, (hxa.then x2).trans hx3 (fun b hb hlt' => by have := own_fresh ho2 b (by simpa using hb); omega)⟩
            rw [HF.out, HO.out]
            simpa [NewI, iv] using ho3
          case measure => simp [intOf]; omega
        · have HO := Lib.hid (show oneNum L[i] = none by
            rw [oneNum, hs]
            match m, hm with
            | [], _ => rfl
            | _ :: _ :: _, _ => rfl)
          have hm' : ((m.length : Int) == 1) = false := by rw [beq_eq_false_iff_ne]; omega
          clear hs hm
          iterate 60 (first | at_builtin | go_step | skip)
          go_at_call 65
          refine hS.mono ?_
          rintro e w2 ⟨r2, rfl, hr2, x2⟩
          obtain ⟨p2, c2, rfl, _, _⟩ := own_size hr2
          dsimp only
          go_wp2_with fail
          go_roundw
          case rel => exact ⟨i + 1, by omega, by go_num, by rw [HF.out, HO.out]; simpa using ho1.then x2, hxa.then x2⟩
          case measure => simp [intOf]; omega
    · have e : i = L.length := by omega
      subst e
      go_wp2_with fail
      go_ret
      rw [List.take_length] at ho
      exact ⟨_, rfl, by rw [allNums, HL.out]; exact NewI.later ho x01.size, x01.then hx⟩
end Go.Proofs.YtbbfgbkbdhghbaaGreatDoor

set_option linter.unusedVariables false
set_option linter.unusedSimpArgs false
namespace Go.Proofs.YtbbfgbkbdhghbaaGreatDoor
open Go.RowKit

/-- block b is a table of the document's that holds T -/
def IsTab (w : World) (b : Nat) (T : Tbl) : Prop := ∃ v hs, w.heap[b]? = some (.cells #[v] 54 (0, 0)) ∧ RdP w v hs T
theorem IsTab.ext {w w' : World} {b : Nat} {T : Tbl} {M : List Nat} (h : IsTab w b T) (e : Ext M w w') (hb : b ∉ M) (hm : ∀ x ∈ M, ∀ cs fr, w.heap[x]? ≠ some (.cells cs 5 fr)) (hp : ∀ x ∈ M, ∀ cs fr, w.heap[x]? ≠ some (.cells cs 95 fr)) : IsTab w' b T := by
  obtain ⟨v, hs, h1, h2, h3⟩ := h
  exact ⟨v, hs, (e.block _ (Array.getElem?_eq_some_iff.1 h1).1 hb).trans h1, h2.ext e hp, h3.imp fun _ _ q => q.ext e hm⟩
theorem IsTab.then {w w' : World} {b : Nat} {T : Tbl} (h : IsTab w b T) (e : Ext [] w w') : IsTab w' b T := h.ext e (by simp) (by simp) (by simp)

theorem ref_Right {U1 U2 : TypeId} (kv vv : Value) (k v : Bytes) (w : World) (hk : Bs U1 w kv k) (hv : Bs U2 w vv v) :
    Calls Tryz.prog 54 #[kv, vv] w fun e w' => e = .returned (.bool (decide (1 ≤ k.length ∧ k.length ≤ 32 ∧ v.length ≤ 120))) ∧ w = w' := by
  obtain ⟨p1, c1, rfl, _, hd1⟩ := hk.shape
  obtain ⟨p2, c2, rfl, _, hd2⟩ := hv.shape
  by_cases h1 : 1 ≤ k.length
  · by_cases h2 : k.length ≤ 32
    · have HE := Lib.hid (show decide (1 ≤ k.length ∧ k.length ≤ 32 ∧ v.length ≤ 120) = decide (v.length ≤ 120) by simp [h1, h2])
      go_enter Tryz.func54, Tryz.ntmps54
      go_wp2_with fail
      go_ret
      refine ⟨ret_bool ?_, rfl⟩
      rw [HE.out]
      simp
      omega
    · have HE := Lib.hid (show decide (1 ≤ k.length ∧ k.length ≤ 32 ∧ v.length ≤ 120) = false by simp; omega)
      go_enter Tryz.func54, Tryz.ntmps54
      go_wp2_with fail
      go_ret
      exact ⟨rfl, rfl⟩
  · have HE := Lib.hid (show decide (1 ≤ k.length ∧ k.length ≤ 32 ∧ v.length ≤ 120) = false by simp; omega)
    go_enter Tryz.func54, Tryz.ntmps54
    go_wp2_with fail
    go_ret
    exact ⟨rfl, rfl⟩

theorem tget_first {T : Tbl} {k : Bytes} : ∀ {i : Nat} (hi : i < T.length), (∀ j (hj : j < i), (T[j]'(Nat.lt_trans hj hi)).1 ≠ k) → T[i].1 = k → tget T k = some T[i].2 := by
  induction T with
  | nil => intro i hi; simp at hi
  | cons p T ih =>
    intro i hi hne he
    rw [tget_cons]
    cases i with
    | zero => simp at he; simp [he]
    | succ i =>
      have h0 := hne 0 (by omega)
      simp only [List.getElem_cons_zero] at h0
      rw [if_neg h0]
      exact ih (by simpa using hi) (fun j hj => by have := hne (j + 1) (by omega); simpa using this) (by simpa using he)

theorem tab_Get {U : TypeId} {w : World} {b : Nat} {T : Tbl} (h : IsTab w b T) (kv : Value) (k : Bytes) (hk : Bs U w kv k) (hv : ∀ p ∈ T, p.2.length ≤ 4294967296) :
    Calls Tryz.prog 67 #[.pointer (some ⟨b, 0, none⟩), kv] w fun e w' => ∃ r, e = .returned (.tuple #[r, .bool (tget T k).isSome]) ∧ NewB w w' r ((tget T k).getD []) ∧ Ext [] w w' := by
  obtain ⟨v, hs, hb, hrd⟩ := h
  have c0 : w.cell? ⟨b, 0, none⟩ = some v := by simp [World.cell?, hb]
  obtain ⟨vp, vc, rfl, hc1, hc2⟩ := hrd.1.shape
  clear hb
  go_enter Tryz.func67, Tryz.ntmps67
  go_wp2_with fail
  go_loopw [6] (fun s wr => ∃ i : Nat, i ≤ T.length ∧ s = .int .i64 i ∧ (∀ j (hj : j < i) (hl : j < T.length), T[j].1 ≠ k) ∧ Ext [] w wr) (fun s _ => T.length - (intOf s).toNat)
  case atStart => exact ⟨0, Nat.zero_le _, rfl, by simp, Ext.refl _ _⟩
  case round =>
    obtain ⟨i, hi, rfl, hall, hx⟩ := hrel
    have HA := Lib.hid hall
    clear hall
    have e0 := hx.cell (by simp) c0
    have d0 := hx.drew.cell (by simp) c0
    by_cases hlt : i < T.length
    · obtain ⟨bb, off, c', hpp, _⟩ := hrd.1.at (by omega)
      injection hpp with hpp _ hc'
      subst hpp; subst hc'
      have hrd2 := hrd.then hx.drew
      obtain ⟨k1, v1, _, g1, g2, hk1, hv1⟩ := hrd2.at hlt
      have hstr := run_str (P := Tryz.prog) Tryz.underlying63 Tryz.underlying5 Tryz.underlying9 (hk.then hx.drew)
      have hstr1 := run_str (P := Tryz.prog) Tryz.underlying63 Tryz.underlying5 Tryz.underlying9 hk1
      have hvl : T[i].2.length ≤ 4294967296 := hv _ (List.getElem_mem hlt)
      cases hq : (T[i].1 == k) with
      | false =>
        have HQ := Lib.hid hq
        iterate 60 (first | at_builtin | go_step | skip)
        go_region
        all_goals
          iterate 60 (first | at_builtin | go_step | skip)
          refine ⟨⟨i + 1, by omega, by go_num, fun j hj hl => ?_, hx.drew⟩, by simp [intOf]; omega⟩
          rcases Nat.lt_succ_iff_lt_or_eq.1 hj with hj | rfl
          · exact HA.out j hj hl
          · have := HQ.out; simpa using this
      | true =>
        have hg : tget T k = some T[i].2 := tget_first hlt (fun j hj => HA.out j hj _) (by simpa using hq)
        have HG := Lib.hid hg
        have hl1 : (T[i].2.map bv).length = T[i].2.length * 1 := by simp
        have hl2 := bv_one T[i].2
        have hsz := hx.size
        clear hg
        iterate 60 (first | at_builtin | go_step | skip)
        go_region
        all_goals
          iterate 120 (first | at_builtin | go_step | skip)
          with_reducible refine app0 (base := w.heap.size) Tryz.underlying63 row_u8 (by decide) hv1.sl hl1 hl2 ?_ ?_ ?_ ?_ ?_
          omega
          omega
          exact hsz
          rfl
          intro v2 w1 ho hg hat
          go_wp2_with fail
          go_ret2
          rw [HG.out]
          exact ⟨_, rfl, by simpa [NewB] using ho, hx.drew.then hg⟩
    · have e : i = T.length := by omega
      subst e
      have hg : tget T k = none := tget_none fun p hp => by
        obtain ⟨j, hj, rfl⟩ := List.mem_iff_getElem.1 hp
        exact HA.out j hj hj
      have HG := Lib.hid hg
      clear hg
      iterate 60 (first | at_builtin | go_step | skip)
      go_ret2
      rw [HG.out]
      exact ⟨_, rfl, own_nil _ _ _ _, hx⟩
end Go.Proofs.YtbbfgbkbdhghbaaGreatDoor

set_option linter.unusedVariables false
set_option linter.unusedSimpArgs false
namespace Go.Proofs.YtbbfgbkbdhghbaaGreatDoor
open Go.RowKit

set_option maxHeartbeats 1000000 in
theorem tab_Scan {U : TypeId} {w : World} {b : Nat} {T : Tbl} (h : IsTab w b T) (pv : Value) (p : Bytes) (hp : Bs U w pv p) (hT : T.length ≤ 1099511627776) :
    Calls Tryz.prog 92 #[.pointer (some ⟨b, 0, none⟩), pv] w fun e w' => ∃ r, e = .returned r ∧ OwnP w.heap.size w' r (tscan T p) ∧ Ext [] w w' := by
  obtain ⟨v, hs, hb, hrd⟩ := h
  have c0 : w.cell? ⟨b, 0, none⟩ = some v := by simp [World.cell?, hb]
  obtain ⟨vp, vc, rfl, hc1, hc2⟩ := hrd.1.shape
  obtain ⟨pp, pc, rfl, hpc1, hpc2⟩ := hp.shape
  clear hb
  go_enter Tryz.func92, Tryz.ntmps92
  go_wp2_with fail
  go_loopw [5, 6] (fun o s wr => ∃ i : Nat, i ≤ T.length ∧ s = .int .i64 i ∧ OwnP w.heap.size wr o (tscan (T.take i) p) ∧ Ext [] w wr) (fun _ s _ => T.length - (intOf s).toNat)
  case atStart => exact ⟨0, Nat.zero_le _, rfl, OwnP.nil _ _, Ext.refl _ _⟩
  case round =>
    obtain ⟨i, hi, rfl, hP, hx⟩ := hrel
    have e0 := hx.cell (by simp) c0
    have d0 := hx.drew.cell (by simp) c0
    by_cases hlt : i < T.length
    · obtain ⟨bb, off, c', hpp, _⟩ := hrd.1.at (by omega)
      injection hpp with hpp _ hc'
      subst hpp; subst hc'
      obtain ⟨k1, v1, _, g1, g2, hk1, hv1⟩ := (hrd.then hx).at hlt
      obtain ⟨kp, kc, rfl, hkc1, hkc2⟩ := hk1.shape
      obtain ⟨vp1, vc1, rfl, _, _⟩ := hv1.shape
      have HS := Lib.hid (show tscan (T.take (i + 1)) p = tscan (T.take i) p ++ (if p.isPrefixOf T[i].1 then [T[i]] else []) by
        rw [List.take_succ_eq_append_getElem hlt, tscan, List.filter_append, List.filter_cons]; rfl)
      have hPl : (tscan (T.take i) p).length ≤ 1099511627776 := Nat.le_trans (List.length_filter_le _ _) (by simp; omega)
      have hdr : Ext [] wr wr.drew := (Ext.refl [] wr).drew
      have g3 := hdr.cell (by simp) g1
      have g4 := hdr.cell (by simp) g2
      have hstr := run_str (P := Tryz.prog) Tryz.underlying63 Tryz.underlying5 Tryz.underlying9 (hp.then hx.drew)
      have hsz := hx.size
      by_cases hle : p.length ≤ T[i].1.length
      · have hb : (T[i].1.take p.length == p) = p.isPrefixOf T[i].1 := by
          rw [Bool.eq_iff_iff, List.isPrefixOf_iff_prefix, List.prefix_iff_eq_take, beq_iff_eq]
          exact ⟨fun h => h.symm, fun h => h.symm⟩
        have htk := (hk1.then hdr).take p.length hle
        have hstr2 := run_str (P := Tryz.prog) Tryz.underlying63 Tryz.underlying5 Tryz.underlying9 htk
        cases hq : (T[i].1.take p.length == p) with
        | false =>
          have HQ := Lib.hid (show p.isPrefixOf T[i].1 = false by rw [← hb, hq])
          clear hb htk
          iterate 120 (first | at_builtin | go_step | skip)
          go_region
          all_goals
            iterate 120 (first | at_builtin | go_step | skip)
            refine ⟨⟨i + 1, by omega, by go_num, ?_, hx.drew⟩, by simp [intOf]; omega⟩
            rw [HS.out, HQ.out]
            simpa using hP.then hdr
        | true =>
          have HQ := Lib.hid (show p.isPrefixOf T[i].1 = true by rw [← hb, hq])
          clear hb htk
          obtain ⟨hs', ho, hrel⟩ := hP.then hdr
          iterate 120 (first | at_builtin | go_step | skip)
          go_region
          all_goals
            iterate 120 (first | at_builtin | go_step | skip)
            rw [show ∀ o, (wr.alloc o).drew = wr.drew.alloc o from fun _ => rfl]
            with_reducible refine app1 (k := 2) Tryz.underlying51 row_pair (by decide) ho ?_ ?_ ?_ ?_ ?_ ?_ ?_ ?_
            rfl
            simp [Value.oneCell']
            omega
            omega
            exact hsz
            rfl
            rfl
            intro v1 w6 ho1 hx1 hat
            iterate 120 (first | at_builtin | go_step | skip)
            refine ⟨⟨i + 1, by omega, by go_num, ?_, ?_⟩, by simp [intOf]; omega⟩
            · rw [HS.out, HQ.out, if_pos rfl]
              exact OwnP.push (h := (_, _)) ho hrel ⟨hk1.then hdr, hv1.then hdr⟩ ho1 hx1
            · exact hx.drew.trans hx1 (fun b hb hlt' => by have := own_fresh ho b (by simpa using hb); omega)
      · have HQ := Lib.hid (show p.isPrefixOf T[i].1 = false by
          rw [Bool.eq_false_iff, ne_eq, List.isPrefixOf_iff_prefix]
          exact fun h => hle h.length_le)
        iterate 120 (first | at_builtin | go_step | skip)
        go_region
        all_goals
          iterate 120 (first | at_builtin | go_step | skip)
          refine ⟨⟨i + 1, by omega, by go_num, ?_, hx.drew⟩, by simp [intOf]; omega⟩
          rw [HS.out, HQ.out]
          simpa using hP.then hdr
    · have e : i = T.length := by omega
      subst e
      rw [List.take_length] at hP
      iterate 60 (first | at_builtin | go_step | skip)
      go_ret
      exact ⟨_, rfl, hP, hx⟩
end Go.Proofs.YtbbfgbkbdhghbaaGreatDoor

set_option linter.unusedVariables false
set_option linter.unusedSimpArgs false
namespace Go.Proofs.YtbbfgbkbdhghbaaGreatDoor
open Go.RowKit

theorem tdel_lt (T : Tbl) (k : Bytes) : decide ((tdel T k).length < T.length) = (tget T k).isSome := by
  rw [Bool.eq_iff_iff, decide_eq_true_iff]
  constructor
  · intro h
    cases hg : tget T k with
    | some v => rfl
    | none =>
      have : tdel T k = T := List.filter_eq_self.2 fun p hp => by simpa using (tget_none_iff.1 hg) p hp
      rw [this] at h; omega
  · intro h
    obtain ⟨v, hv⟩ := Option.isSome_iff_exists.1 h
    exact List.length_filter_lt_length_iff_exists.2 ⟨_, tget_mem hv, by simp⟩

/-- what is stored into a table's one field -/
theorem IsTab.set {w : World} {b : Nat} {v r : Value} (hb : w.heap[b]? = some (.cells #[v] 54 (0, 0))) {hs : List (Value × Value)} {T : Tbl} (hr : RdP w r hs T) :
    IsTab (w.setCell ⟨b, 0, none⟩ r) b T ∧ Ext [b] w (w.setCell ⟨b, 0, none⟩ r) := by
  have x : Ext [b] w (w.setCell ⟨b, 0, none⟩ r) := (Ext.refl [b] w).setCell (fun _ => by simp) r
  have hne : ∀ U, 54 ≠ U → ∀ q ∈ [b], ∀ cs fr, w.heap[q]? ≠ some (.cells cs U fr) := by
    intro U hU q hq cs fr hh
    simp at hq
    subst hq
    rw [hb] at hh
    injection hh with hh
    injection hh with _ hh _
    exact hU hh
  refine ⟨⟨r, hs, ?_, hr.1.ext x (hne _ (by decide)), hr.2.imp fun _ _ q => q.ext x (hne _ (by decide))⟩, x⟩
  rw [setCell_at hb]
  rfl

end Go.Proofs.YtbbfgbkbdhghbaaGreatDoor

set_option linter.unusedVariables false
set_option linter.unusedSimpArgs false
namespace Go.Proofs.YtbbfgbkbdhghbaaGreatDoor
open Go.RowKit

section
variable {P : Program} {ops : Array Oper} {Q : Exit → Act → World → Prop}

/-- one operation, and what is to hold behind it -/
def QK (K : Act → World → Prop) (Q : Exit → Act → World → Prop) : Exit → Act → World → Prop
  | .normal, a, w => K a w
  | e, a, w => Q e a w

theorem upon_QK (o : Oper) (a : Act) (K : Act → World → Prop) (r : Result Next) (h : o.upon P a K (QK K Q) r) : o.upon P a K Q r := by
  cases r with
  | ok n w =>
    cases n with
    | enter f args =>
      simp only [Oper.upon] at h ⊢
      exact Calls.mono h (fun e w'' he => by cases e <;> exact he)
    | _ => exact h
  | halt x w => cases x <;> exact h

theorem wpOp_of_list {i : Nat} {o : Oper} (ho : ops[i]? = some o) {K : Act → World → Prop} {a : Act} {w : World} (h : wpList P ops (QK K Q) [o] a w) : wpOp P ops Q i K a w := by
  unfold wpOp
  simp only [ho]
  unfold wpList at h
  split at h
  · rename_i hw
    rw [if_pos hw]
    rcases h with h | ⟨h1, h2⟩
    · exact .inl (upon_QK o a K _ h)
    · exact .inr ⟨h1, h2⟩
  · rename_i hw
    rw [if_neg hw]
    exact h

def undone (l : Array Bool) : Nat := l.toList.countP (· == false)

theorem ready_iff {listed : Array Bool} {i : Nat} : i ∈ Region.ready .any ops listed ↔ ∃ o, ops[i]? = some o ∧ listed.getD i true = false ∧ ∀ e ∈ o.after, Region.binds .any e = true → listed.getD e.on false = true := by
  unfold Region.ready
  simp only [List.mem_filter, List.mem_range, Bool.and_eq_true, Bool.not_eq_true']
  constructor
  · rintro ⟨h1, h2, h3⟩
    have ho : ops[i]? = some ops[i] := by simp [h1]
    rw [ho] at h3
    simp only [Option.map_some, Option.getD_some, Array.all_eq_true] at h3
    refine ⟨ops[i], ho, h2, fun e he hb => ?_⟩
    obtain ⟨j, hj, rfl⟩ := Array.mem_iff_getElem.1 he
    have := h3 j hj
    simpa [hb] using this
  · rintro ⟨o, ho, h2, h3⟩
    have h1 : i < ops.size := (Array.getElem?_eq_some_iff.1 ho).1
    refine ⟨h1, h2, ?_⟩
    rw [ho]
    simp only [Option.map_some, Option.getD_some, Array.all_eq_true]
    intro j hj
    cases hb : Region.binds .any o.after[j] with
    | false => simp
    | true => simpa using h3 _ (Array.getElem_mem hj) hb

theorem undone_set {l : Array Bool} {i : Nat} (hi : i < l.size) (h : l[i] = false) : undone (l.setIfInBounds i true) + 1 = undone l := by
  unfold undone
  rw [Array.toList_setIfInBounds]
  have hl : i < l.toList.length := by simpa using hi
  have he : l.toList[i] = false := by simpa using h
  have h1 := List.take_append_drop i l.toList
  rw [List.drop_eq_getElem_cons hl, he] at h1
  have h2 : l.toList.set i true = l.toList.take i ++ true :: l.toList.drop (i + 1) := List.set_eq_take_append_cons_drop .. |>.trans (by rw [if_pos hl])
  rw [h2]
  conv => rhs; rw [← h1]
  simp [List.countP_append, List.countP_cons]
  omega

theorem listed_set {l : Array Bool} {i j : Nat} (hi : i < l.size) : (l.setIfInBounds i true).getD j false = if i = j then true else l.getD j false := by
  by_cases e : i = j
  · subst e; simp [Array.getD, hi]
  · simp only [e, if_false, Array.getD, Array.size_setIfInBounds]
    split
    · rename_i h
      rw [Array.getInternal_eq_getElem, Array.getInternal_eq_getElem, Array.getElem_setIfInBounds h]
      simp [e]
    · rfl

theorem wpAny_rely (I : Array Bool → Act → World → Prop) (hback : ∀ (i : Nat) (o : Oper), ops[i]? = some o → ∀ e ∈ o.after, e.on < i)
    (hend : ∀ listed a w, listed.size = ops.size → (∀ i, i < ops.size → listed.getD i false = true) → I listed a w → Q .normal a w)
    (hstep : ∀ listed a w i o, listed.size = ops.size → (∀ (j : Nat) (x : Oper), ops[j]? = some x → listed.getD j false = true → ∀ e ∈ x.after, Region.binds .any e = true → listed.getD e.on false = true) → I listed a w → ops[i]? = some o → listed.getD i false = false → (∀ e ∈ o.after, Region.binds .any e = true → listed.getD e.on false = true) →
      wpList P ops (QK (I (listed.setIfInBounds i true)) Q) [o] a w) :
    ∀ fuel listed a w, listed.size = ops.size → (∀ (j : Nat) (x : Oper), ops[j]? = some x → listed.getD j false = true → ∀ e ∈ x.after, Region.binds .any e = true → listed.getD e.on false = true) → undone listed ≤ fuel → I listed a w → wpAny P .any ops Q fuel listed a w := by
  have hall : ∀ listed : Array Bool, listed.size = ops.size → Region.ready .any ops listed = [] → ∀ i, i < ops.size → listed.getD i false = true := by
    intro listed hs hr i
    induction i using Nat.strongRecOn with
    | ind i ih =>
      intro hi
      cases hl : listed.getD i false with
      | true => rfl
      | false =>
        have ho : ops[i]? = some ops[i] := by simp [hi]
        have : i ∈ Region.ready .any ops listed := ready_iff.2 ⟨_, ho, by
          have hi' : i < listed.size := by omega
          simp only [Array.getD, hi', dif_pos] at hl ⊢
          exact hl, fun e he _ => by
          have := hback i _ ho e he
          exact ih e.on this (by omega)⟩
        rw [hr] at this
        simp at this
  intro fuel
  induction fuel with
  | zero =>
    intro listed a w hs hcl hf hI
    have hr : Region.ready .any ops listed = [] := by
      cases h : Region.ready .any ops listed with
      | nil => rfl
      | cons i r =>
        have hm : i ∈ Region.ready .any ops listed := by rw [h]; exact .head _
        obtain ⟨o, ho, h1, _⟩ := ready_iff.1 hm
        have hi : i < listed.size := by rw [hs]; exact (Array.getElem?_eq_some_iff.1 ho).1
        have h2 : listed[i] = false := by simpa [Array.getD, hi] using h1
        have := undone_set hi h2
        omega
    exact ⟨hr, hend _ _ _ hs (hall _ hs hr) hI⟩
  | succ fuel ih =>
    intro listed a w hs hcl hf hI
    refine ⟨fun hr => hend _ _ _ hs (hall _ hs hr) hI, fun i hi => ?_⟩
    obtain ⟨o, ho, h1, h2⟩ := ready_iff.1 hi
    have hset : ∀ (i : Nat) (o : Oper), ops[i]? = some o → (∀ e ∈ o.after, Region.binds .any e = true → listed.getD e.on false = true) → i < listed.size →
        (∀ (j : Nat) (x : Oper), ops[j]? = some x → listed.getD j false = true → ∀ e ∈ x.after, Region.binds .any e = true → listed.getD e.on false = true) →
        ∀ (j : Nat) (x : Oper), ops[j]? = some x → (listed.setIfInBounds i true).getD j false = true → ∀ e ∈ x.after, Region.binds .any e = true → (listed.setIfInBounds i true).getD e.on false = true := by
      intro i o ho h2 hil hcl j x hx hj e he hb
      have up : ∀ m, listed.getD m false = true → (listed.setIfInBounds i true).getD m false = true := by
        intro m hm
        rw [listed_set hil]
        split
        · rfl
        · exact hm
      rw [listed_set hil] at hj
      split at hj
      · rename_i e1
        subst e1
        rw [ho] at hx
        injection hx with hx
        subst hx
        exact up _ (h2 e he hb)
      · exact up _ (hcl j x hx hj e he hb)
    have hil : i < listed.size := by rw [hs]; exact (Array.getElem?_eq_some_iff.1 ho).1
    have h3 : listed[i] = false := by simpa [Array.getD, hil] using h1
    refine wpOp_mono (fun a w hI' => ih _ a w (by simpa using hs) (hset i o ho h2 hil hcl) (by have := undone_set hil h3; omega) hI') (wpOp_of_list ho (hstep listed a w i o hs hcl hI ho (by simpa [Array.getD, hil] using h3) h2))

theorem region_rely {id : Nat} {a : Act} {w : World} (hm : P.follows .mixedOrders = true) (I : Array Bool → Act → World → Prop) (hback : ∀ (i : Nat) (o : Oper), ops[i]? = some o → ∀ e ∈ o.after, e.on < i)
    (hstart : I (Array.replicate ops.size false) a w.drew)
    (hend : ∀ listed a w, listed.size = ops.size → (∀ i, i < ops.size → listed.getD i false = true) → I listed a w → Q .normal a w)
    (hstep : ∀ listed a w i o, listed.size = ops.size → (∀ (j : Nat) (x : Oper), ops[j]? = some x → listed.getD j false = true → ∀ e ∈ x.after, Region.binds .any e = true → listed.getD e.on false = true) → I listed a w → ops[i]? = some o → listed.getD i false = false → (∀ e ∈ o.after, Region.binds .any e = true → listed.getD e.on false = true) →
      wpList P ops (QK (I (listed.setIfInBounds i true)) Q) [o] a w) : (Code.region id ops true).wp P Q a w :=
  wp_region_any hm (wpAny_rely I hback hend hstep ops.size _ a w.drew (by simp) (fun j x _ hj => by
    exfalso
    simp only [Array.getD, Array.size_replicate] at hj
    split at hj
    · simp [Array.getInternal_eq_getElem] at hj
    · cases hj) (by simp [undone, List.countP_replicate]) hstart)

theorem put_size (a : Act) (d : Option Tmp) (v : Value) : (a.put d v).tmps.size = a.tmps.size := by cases d <;> simp [Act.put]
theorem eval_ne {a : Act} {d j : Nat} {v : Value} (h : d ≠ j) : (a.put (some d) v).eval (.tmp j) = a.eval (.tmp j) := Act.eval_put (fun d' hd e => by cases hd; cases e; exact h rfl)
theorem eval_eq {a : Act} {d : Nat} {v : Value} (h : d < a.tmps.size) : (a.put (some d) v).eval (.tmp d) = v := by
  simp [Act.eval, Act.put, h]

/-- every edge leads back -/
def backB (ops : Array Oper) : Bool := (List.range ops.size).all fun i => match ops[i]? with
  | some o => o.after.all fun e => decide (e.on < i)
  | none => true
theorem back_of (h : backB ops = true) : ∀ (i : Nat) (o : Oper), ops[i]? = some o → ∀ e ∈ o.after, e.on < i := by
  intro i o ho e he
  have hi : i < ops.size := (Array.getElem?_eq_some_iff.1 ho).1
  have := List.all_eq_true.1 h i (List.mem_range.2 hi)
  rw [ho] at this
  simp only [Array.all_eq_true] at this
  obtain ⟨j, hj, rfl⟩ := Array.mem_iff_getElem.1 he
  simpa using this j hj

/-- slots that hold a value once their operation is done -/
def TabOk (tab : List (Nat × Nat × Value)) (L : Array Bool) (a : Act) : Prop := ∀ x ∈ tab, L.getD x.1 false = true → a.eval (.tmp x.2.1) = x.2.2
theorem TabOk.step {tab : List (Nat × Nat × Value)} {L : Array Bool} {a : Act} {j d : Nat} {v : Value} (h : TabOk tab L a) (hj : j < L.size) (hd : d < a.tmps.size)
    (h1 : ∀ x ∈ tab, x.1 = j → x.2 = (d, v)) (h2 : ∀ x ∈ tab, x.1 ≠ j → x.2.1 ≠ d) : TabOk tab (L.setIfInBounds j true) (a.put (some d) v) := by
  intro x hx hL
  by_cases e : x.1 = j
  · have := h1 x hx e
    rw [this]
    exact eval_eq hd
  · rw [eval_ne (fun e' => h2 x hx e e'.symm)]
    rw [listed_set hj, if_neg (fun e' => e e'.symm)] at hL
    exact h x hx hL
/-- what a slot holds from its operation on, until another has taken it -/
def Held (L : Array Bool) (a : Act) (w : World) (i c s : Nat) (R : Value → World → Prop) : Prop := L.getD i false = true → L.getD c false = false → R (a.eval (.tmp s)) w
theorem Held.step {L : Array Bool} {a : Act} {w w' : World} {i c s j d : Nat} {v : Value} {R : Value → World → Prop} (h : Held L a w i c s R) (hj : j < L.size) (hij : j ≠ i) (hd : d ≠ s) (hR : j ≠ c → ∀ u, R u w → R u w') :
    Held (L.setIfInBounds j true) (a.put (some d) v) w' i c s R := by
  intro h1 h2
  rw [listed_set hj, if_neg hij] at h1
  rw [listed_set hj] at h2
  split at h2
  · cases h2
  · rename_i hc
    rw [eval_ne hd]
    exact hR hc _ (h h1 h2)
theorem Held.new {L : Array Bool} {a : Act} {w : World} {i c s : Nat} {v : Value} {R : Value → World → Prop} (hd : s < a.tmps.size) (hR : R v w) : Held L (a.put (some s) v) w i c s R := by
  intro _ _
  rw [eval_eq hd]
  exact hR
end
end Go.Proofs.YtbbfgbkbdhghbaaGreatDoor
