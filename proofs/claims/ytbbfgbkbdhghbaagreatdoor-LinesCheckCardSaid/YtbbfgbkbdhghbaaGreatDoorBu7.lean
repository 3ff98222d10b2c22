/-
  slices.SortFunc over lines, by their funds; cmp.Compare at ints.
  lines.Funds: funds, rising, with all their amounts together.
  Two lines are equal: as the program asks it.
  slices.Clone, Reverse, Equal, IsSortedFunc, ContainsFunc over lines.
  slices.IsSortedFunc over lines, with the law's comparison.
  lines.Equal: whether all funds have nothing.
  exchequerlaw23.awake and LinesOrder.
-/
import Derived.Test.YtbbfgbkbdhghbaaGreatDoorBu6
import Derived.Test.YtbbfgbkbdhghbaaGreatDoorBu3
import Derived.Test.YtbbfgbkbdhghbaaGreatDoorShelfL
import Derived.Laws.StructEq
import Derived.ChangeKeysEq
import Derived.Test.YtbbfgbkbdhghbaaGreatDoorBu2
set_option linter.unusedVariables false
set_option linter.unusedSimpArgs false
namespace Go.Proofs.YtbbfgbkbdhghbaaGreatDoor
open Go.RowKit Go.Sort

def cmpI (a b : Int) : Int := if a < b then -1 else if b < a then 1 else 0
theorem cmp_isNaN (n : Int) (w : World) : Calls Tryz.prog 43 #[.int .i64 n] w fun e w' => e = .returned (.bool false) ∧ w = w' := by
  go_enter Tryz.func43, Tryz.ntmps43
  go_wp2_with fail
  go_ret
  exact ⟨ret_bool (by simp), rfl⟩
theorem cmp_Compare (a b : Int) (w : World) : Calls Tryz.prog 22 #[.int .i64 a, .int .i64 b] w fun e w' => e = .returned (.int .i64 (cmpI a b)) ∧ w = w' := by
  rcases Int.lt_trichotomy a b with h | h | h
  · have HE := Lib.hid (show cmpI a b = -1 by simp [cmpI, h])
    go_enter Tryz.func22, Tryz.ntmps22
    go_wp2_with (go_at_call 43; refine (cmp_isNaN _ _).mono ?_; rintro e w' ⟨rfl, rfl⟩)
    go_ret
    exact ⟨ret_int HE.out.symm, rfl⟩
  · have HE := Lib.hid (show cmpI a b = 0 by simp [cmpI, h])
    have h1 : ¬ a < b := by omega
    have h2 : ¬ b < a := by omega
    clear h
    go_enter Tryz.func22, Tryz.ntmps22
    go_wp2_with (go_at_call 43; refine (cmp_isNaN _ _).mono ?_; rintro e w' ⟨rfl, rfl⟩)
    go_ret
    exact ⟨ret_int HE.out.symm, rfl⟩
  · have HE := Lib.hid (show cmpI a b = 1 by have : ¬ a < b := by omega
                                             simp [cmpI, h, this])
    have h1 : ¬ a < b := by omega
    go_enter Tryz.func22, Tryz.ntmps22
    go_wp2_with (go_at_call 43; refine (cmp_isNaN _ _).mono ?_; rintro e w' ⟨rfl, rfl⟩)
    go_ret
    exact ⟨ret_int HE.out.symm, rfl⟩

def cmpL (x y : Ln) : Int := cmpI x.1 y.1
theorem ltL (x y : Ln) : ltOf cmpL x y = decide (x.1 < y.1) := by
  unfold ltOf cmpL cmpI
  by_cases h1 : x.1 < y.1
  · simp [h1]
  · by_cases h2 : y.1 < x.1 <;> simp [h1, h2]
theorem swoL : SWO (ltOf cmpL) where
  irrefl x := by rw [ltL]; simp
  trans x y z h1 h2 := by
    rw [ltL] at *
    simp only [decide_eq_true_eq] at *
    omega
  ntrans x y z h1 h2 := by
    rw [ltL] at *
    simp only [decide_eq_false_iff_not] at *
    omega
instance : Inhabited Ln := ⟨(0, 0, 0, 0)⟩

theorem funds_1 (x y : Ln) (W : World) :
    Calls Tryz.prog 40 #[lnV x, lnV y] W fun e w' => e = .returned (.int .i64 (cmpL x y)) ∧ ∃ os, w' = grow W os := by
  have hC := fun W => cmp_Compare x.1 y.1 W
  have HE := Lib.hid (show cmpL x y = cmpI x.1 y.1 from rfl)
  simp only [lnV]
  go_enter Tryz.func40, Tryz.ntmps40
  go_wp2_with (go_at_call 22; refine (hC _).mono ?_; rintro e w' ⟨rfl, rfl⟩)
  go_ret
  exact ⟨ret_int HE.out.symm, _, by rw [alloc_eq_grow, alloc_eq_grow, grow_grow]⟩

theorem row_line : TRow Tryz.prog 37 (.agg #[.int .i64 0, .int .i64 0, .int .i64 0, .int .i64 0]) 4 32 := ⟨by kernel_rfl, rfl⟩
/-- lines that one owns -/
def OwnL (base : Nat) (w : World) (v : Value) (l : List Ln) : Prop := w.ownsRow base 37 4 v l.length (l.flatMap lnC)
theorem OwnL.own {base : Nat} {w : World} {v : Value} {l : List Ln} (h : OwnL base w v l) : w.ownsRow base 37 4 v l.length (l.flatMap lnC) := h
theorem OwnL.rd {base : Nat} {w : World} {v : Value} {l : List Ln} (h : OwnL base w v l) : Lns w 37 v l := Sl.of_own h (by decide)
theorem OwnL.then {base : Nat} {w w' : World} {v : Value} {l : List Ln} (h : OwnL base w v l) (e : Ext [] w w') : OwnL base w' v l := own_then h e
theorem OwnL.snoc {base : Nat} {w' : World} {v : Value} {l : List Ln} {x : Ln} (h : w'.ownsRow base 37 4 v (l.length + 1) (l.flatMap lnC ++ lnC x)) : OwnL base w' v (l ++ [x]) := by
  unfold OwnL
  rw [List.length_append, List.flatMap_append]
  simpa using h

theorem lines_Sort {base : Nat} {w : World} {v : Value} {l : List Ln} (hv : OwnL base w v l) (hl : l.length ≤ 1099511627776) :
    Calls Tryz.prog 39 #[v, .func (.func 40) #[] #[]] w fun e w' => e = .returned (.tuple #[]) ∧ ∃ l', OwnL base w' v l' ∧ l'.Perm l ∧ l'.Pairwise (fun a b => ¬ b.1 < a.1) ∧ Ext v.ownBlock.toList w w' := by
  have ho := hv.own
  have ho' := ho
  obtain ⟨hlen, ⟨rfl, h0⟩ | ⟨g, cap, cur, rfl, hbg, hg, hnc, hcm, hcs, htake⟩⟩ := ho
  · have : l = [] := List.eq_nil_of_length_eq_zero h0
    subst this
    refine (AnyF.slices_SortFunc_none Tryz.sortLines none 0 _ w).mono ?_
    rintro e w' ⟨rfl, rfl⟩
    exact ⟨rfl, [], hv, List.Perm.refl _, List.Pairwise.nil, Ext.refl _ _⟩
  · have hgl : g < w.heap.size := (Array.getElem?_eq_some_iff.1 hg).1
    have hone : ∀ x : Ln, ∀ v ∈ lnC x, v.oneCell' = true := by
      intro x v hv
      simp [lnC] at hv
      rcases hv with rfl | rfl | rfl | rfl <;> rfl
    have hH := holdsK_own lnC_len (by decide) ho'
    have hsz : l.toArray.size < 4611686018427387904 := by simp; omega
    have eg : ∀ args w, (callFunc 40 args).run Tryz.prog w = .ok (.enter 40 args) w := enters_of Tryz.func40 (by kernel_rfl) rfl
    have hcmp : CmpLays Tryz.prog 40 #[] lnC 4 cmpL g 0 l.toArray.size w := by
      intro m os dk _ x y
      refine (funds_1 x y _).mono ?_
      rintro e w' ⟨rfl, os', rfl⟩
      exact ⟨rfl, 0, os', rfl⟩
    have hcon := AnyQ.slices_SortFunc Tryz.sortLines 4 Tryz.isAgg37 Tryz.sizeOf37 lnC lnC_len hone cmpL swoL 40 #[] g 0 cap l.toArray w eg hcmp hH hgl hsz
    rw [show l.toArray.size = l.length by simp] at hcon
    refine hcon.mono ?_
    rintro e w' ⟨rfl, d', n, os, hp, hsd, rfl⟩
    have hd' : d'.size = l.length := by rw [hp.1]; simp
    have hperm : d'.toList.Perm l := by
      have := hp.2.2
      rw [show d'.extract 0 l.length = d' by rw [← hd']; simp, show l.toArray.extract 0 l.length = l.toArray by simp] at this
      simpa using this
    have hown := own_sortK lnC_len (by decide) ho' d'.toList (by simp; rw [hd']) n os
    simp only [Array.toArray_toList] at hown
    have xx := ext_sortWorldK (enc := lnC) (k := 4) (m := n) hgl d' os
    refine ⟨rfl, d'.toList, ?_, hperm, ?_, xx⟩
    · unfold OwnL
      simpa [hd'] using hown
    · rw [List.pairwise_iff_getElem]
      intro i j hi hj hij
      have := hsd i j (Nat.zero_le _) hij (by simp at hj; omega)
      rw [ltL] at this
      simp only [decide_eq_false_iff_not] at this
      have gi : d'[i]! = d'.toList[i] := by simp at hi; simp [hi]
      have gj : d'[j]! = d'.toList[j] := by simp at hj; simp [hj]
      rw [gi, gj] at this
      exact this
end Go.Proofs.YtbbfgbkbdhghbaaGreatDoor

set_option linter.unusedVariables false
set_option linter.unusedSimpArgs false
namespace Go.Proofs.YtbbfgbkbdhghbaaGreatDoor
open Go.RowKit
variable {w : World} {U : TypeId}

def fadd (m : List (Int × Int)) (f a : Int) : List (Int × Int) := aput m f (wrap64 ((alook m f).getD 0 + a))
def sumsOf (l : List Ln) : List (Int × Int) := l.foldl (fun m x => fadd m x.1 x.2.2.2) []
/-- entries of the map of sums -/
def sumV (m : List (Int × Int)) : List (Int × Value) := m.map fun p => (p.1, .int .i64 p.2)

/-- strictly rising by the fund -/
def RiseI (l : List (Int × Int)) : Prop := l.Pairwise (fun a b => a.1 < b.1)
theorem RiseI.nodup {l : List (Int × Int)} (h : RiseI l) : l.Nodup := List.Pairwise.imp (S := fun (a b : Int × Int) => a ≠ b) (fun h e => by rw [e] at h; omega) h
theorem RiseI.perm_eq {A C : List (Int × Int)} (hp : A.Perm C) (ha : RiseI A) (hb : RiseI C) : A = C :=
  hp.eq_of_pairwise (le := fun (a b : Int × Int) => a.1 < b.1) (fun a b _ _ h1 h2 => by omega) ha hb
def fundsOf (l : List Ln) : List (Int × Int) := (sumsOf l).mergeSort fun a b => decide (a.1 ≤ b.1)
def lnF (p : Int × Int) : Ln := (p.1, 0, 0, p.2)
def fundsL (l : List Ln) : List Ln := (fundsOf l).map lnF
theorem aput_nodup (m : List (Int × Int)) (k n : Int) (h : (m.map (·.1)).Nodup) : ((aput m k n).map (·.1)).Nodup := by
  unfold aput
  split
  · have e : (m.map (fun p => if p.1 = k then (k, n) else p)).map (·.1) = m.map (·.1) := by
      rw [List.map_map]
      apply List.map_congr_left
      intro p _
      by_cases e : p.1 = k <;> simp [e]
    rw [e]; exact h
  · rename_i hn
    rw [List.map_append, List.nodup_append]
    refine ⟨h, by simp, ?_⟩
    intro a ha b hb
    simp at hb
    subst hb
    intro e
    subst e
    obtain ⟨p, hp, rfl⟩ := List.mem_map.1 ha
    apply hn
    simp only [alook, Option.isSome_map, List.find?_isSome]
    exact ⟨p, hp, by simp⟩
theorem sumsOf_nodup (l : List Ln) : ((sumsOf l).map (·.1)).Nodup := by
  have : ∀ (l : List Ln) (m : List (Int × Int)), (m.map (·.1)).Nodup → ((l.foldl (fun m x => fadd m x.1 x.2.2.2) m).map (·.1)).Nodup := by
    intro l
    induction l with
    | nil => intro m h; exact h
    | cons x l ih => intro m h; exact ih _ (aput_nodup _ _ _ h)
  exact this l [] (by simp)
theorem fundsOf_rise (l : List Ln) : RiseI (fundsOf l) := by
  have hs : (fundsOf l).Pairwise (fun a b => decide (a.1 ≤ b.1) = true) := List.pairwise_mergeSort (fun a b c h1 h2 => by simp at h1 h2 ⊢; omega) (fun a b => by simp; omega) _
  have hnd : ((fundsOf l).map (·.1)).Nodup := ((List.mergeSort_perm _ _).map _).nodup_iff.2 (sumsOf_nodup l)
  have h2 := List.pairwise_map.1 hnd
  exact (hs.and h2).imp (fun {a b} h => by have := h.1; have h3 := h.2; simp at this h3; omega)
theorem fundsOf_perm (l : List Ln) : (fundsOf l).Perm (sumsOf l) := List.mergeSort_perm _ _
/-- whatever lists the sums, each once, is, sorted, the funds -/
theorem funds_of {l L : List Ln} {ps : List (Int × Int)} (hp : L.Perm (ps.map lnF)) (hps : ps.Perm (sumsOf l)) (hs : L.Pairwise (fun a b => ¬ b.1 < a.1)) : L = fundsL l := by
  obtain ⟨qs, rfl⟩ : ∃ qs : List (Int × Int), L = qs.map lnF := by
    refine ⟨L.map fun x => (x.1, x.2.2.2), ?_⟩
    rw [List.map_map]
    conv => lhs; rw [← List.map_id L]
    apply List.map_congr_left
    intro x hx
    obtain ⟨p, _, rfl⟩ := List.mem_map.1 (hp.mem_iff.1 hx)
    rfl
  have hq : qs.Perm ps := by
    have := hp.map (fun x : Ln => (x.1, x.2.2.2))
    have e : ∀ r : List (Int × Int), (r.map lnF).map (fun x : Ln => (x.1, x.2.2.2)) = r := fun r => by
      rw [List.map_map]; conv => rhs; rw [← List.map_id r]
      rfl
    rwa [e, e] at this
  have hqs := hq.trans hps
  have hnd : (qs.map (·.1)).Nodup := (hqs.map _).nodup_iff.2 (sumsOf_nodup l)
  have h2 := List.pairwise_map.1 hnd
  have h3 := List.pairwise_map.1 hs
  have hr : RiseI qs := (h3.and h2).imp (fun {a b} h => by have h4 := h.1; have h5 := h.2; simp [lnF] at h4 h5; omega)
  unfold fundsL
  rw [RiseI.perm_eq (hqs.trans (fundsOf_perm l).symm) hr (fundsOf_rise l)]

theorem alook_sumV (m : List (Int × Int)) (k : Int) : (alook (sumV m) k).getD (.int .i64 0) = .int .i64 ((alook m k).getD 0) := by
  induction m with
  | nil => rfl
  | cons p m ih =>
    by_cases e : p.1 = k
    · simp [alook, sumV, e]
    · simpa [alook, sumV, List.find?_cons, e] using ih
theorem alook_sumV_some (m : List (Int × Int)) (k : Int) : (alook (sumV m) k).isSome = (alook m k).isSome := by
  induction m with
  | nil => rfl
  | cons p m ih =>
    by_cases e : p.1 = k
    · simp [alook, sumV, e]
    · simpa [alook, sumV, List.find?_cons, e] using ih
theorem aput_sumV (m : List (Int × Int)) (k n : Int) : aput (sumV m) k (.int .i64 n) = sumV (aput m k n) := by
  unfold aput
  rw [alook_sumV_some]
  split
  · simp only [sumV, List.map_map]
    apply List.map_congr_left
    intro p _
    by_cases e : p.1 = k <;> simp [e]
  · simp [sumV]
theorem sumsOf_snoc (l : List Ln) (x : Ln) : sumsOf (l ++ [x]) = fadd (sumsOf l) x.1 x.2.2.2 := by simp [sumsOf]
theorem aput_len (m : List (Int × Int)) (k n : Int) : (aput m k n).length ≤ m.length + 1 := by
  unfold aput; split <;> simp
theorem sumsOf_len (l : List Ln) : (sumsOf l).length ≤ l.length := by
  have : ∀ (l : List Ln) (m : List (Int × Int)), (l.foldl (fun m x => fadd m x.1 x.2.2.2) m).length ≤ m.length + l.length := by
    intro l
    induction l with
    | nil => intro m; simp
    | cons x l ih =>
      intro m
      have := ih (fadd m x.1 x.2.2.2)
      have := aput_len m x.1 (wrap64 ((alook m x.1).getD 0 + x.2.2.2))
      simp only [List.foldl_cons, List.length_cons, fadd] at *
      omega
  have := this l []
  simpa [sumsOf] using this
theorem zero_int (w : World) : (zeroValue 3).run Tryz.prog w = .ok (.int .i64 0) w := by kernel_rfl

theorem lines_Funds {v : Value} {l : List Ln} (hl : Lns w U v l) (hn : l.length ≤ 1048576) :
    Calls Tryz.prog 14 #[v] w fun e w' => ∃ r, e = .returned r ∧ OwnL w.heap.size w' r (fundsL l) ∧ Ext [] w w' := by
  obtain ⟨p, c, rfl, g1, g2⟩ := Sl.shape hl
  have hmm := @run_makeMap Tryz.prog
  have m0 : MapIs intEnc (w.alloc (.map #[] 0)) w.heap.size [] := MapIs.made w
  have x0 := (Ext.refl [] w).alloc (.map #[] 0)
  have hlt0 : w.heap.size < (w.alloc (.map #[] 0)).heap.size := by simp
  go_enter Tryz.func14, Tryz.ntmps14
  go_wp2_with fail
  go_loopw [12] (fun s wr => ∃ i : Nat, i ≤ l.length ∧ s = .int .i64 i ∧ MapIs intEnc wr w.heap.size (sumV (sumsOf (l.take i))) ∧ Ext [] w wr) (fun s _ => l.length - (intOf s).toNat)
  case atStart => exact ⟨0, Nat.zero_le _, rfl, m0, x0⟩
  case round =>
    obtain ⟨i, hi, rfl, hm, hx⟩ := hrel
    by_cases hlt : i < l.length
    · obtain ⟨b, off, c', hpp, _⟩ := Sl.at hl (by omega)
      injection hpp with hpp _ hc'
      subst hpp; subst hc'
      obtain ⟨f1, f2, f3, f4⟩ := (hl.then hx).at hlt
      have HT := Lib.hid (show sumsOf (l.take (i + 1)) = fadd (sumsOf (l.take i)) l[i].1 l[i].2.2.2 by rw [List.take_succ_eq_append_getElem hlt, sumsOf_snoc])
      have ya := (Ext.refl [] wr).alloc (.cells #[.int .i64 l[i].1, .int .i64 l[i].2.1, .int .i64 l[i].2.2.1, .int .i64 l[i].2.2.2] 37)
      have hy := hx.then ya
      have hma := hm.ext ya (by simp)
      have hlook := hma.look1 (P := Tryz.prog) (t := 71) Tryz.underlying71 Tryz.underlying3 (zero_int _) l[i].1
      rw [alook_sumV] at hlook
      change (Instr.lookup _ _ (.int .i64 l[i].1) false).run _ _ = _ at hlook
      obtain ⟨w2, hu, hm2, hx2, hsz2⟩ := hma.put (P := Tryz.prog) (t := 71) Tryz.underlying71 Tryz.underlying3 l[i].1 (.int .i64 (wrap64 ((alook (sumsOf (l.take i)) l[i].1).getD 0 + l[i].2.2.2)))
      change (Instr.mapUpdate _ _ (.int .i64 l[i].1) _).run _ _ = _ at hu
      rw [aput_sumV] at hm2
      go_wp2_with fail
      exact ⟨⟨i + 1, by omega, by go_num, by rw [HT.out]; exact hm2, hy.trans hx2 (fun b hb hlt' => by simp at hb; omega)⟩, by simp [intOf]; omega⟩
    · have e : i = l.length := by omega
      subst e
      rw [List.take_length] at hm
      obtain ⟨hr, hit⟩ := Iter.start (P := Tryz.prog) hm Tryz.underlying71
      have x1 := (Ext.refl [] wr).alloc (.mapIter (some w.heap.size) (hm.choose_spec.choose) #[] (hm.choose_spec.choose))
      have hs1 : wr.heap.size < (wr.alloc (.mapIter (some w.heap.size) (hm.choose_spec.choose) #[] (hm.choose_spec.choose))).heap.size := by simp
      have hml := hm.lt
      generalize (wr.alloc (.mapIter (some w.heap.size) (hm.choose_spec.choose) #[] (hm.choose_spec.choose))) = w1 at hr hit x1 hs1
      obtain ⟨w5, hw5⟩ : ∃ w5, w5 = wr := ⟨_, rfl⟩
      subst hw5
      have hSl : (sumsOf l).length ≤ l.length := sumsOf_len l
      have hsz5 := hx.size
      go_wp2_with fail
      go_loopw [6] (fun o ws => ∃ L left : List (Int × Int), OwnL (w5.heap.size + 1) ws o (L.map lnF) ∧ Iter intEnc ws w5.heap.size w.heap.size (sumV (sumsOf l)) (sumV left) ∧ (L ++ left).Perm (sumsOf l) ∧ Ext [] w5 ws ∧ w5.heap.size < ws.heap.size) (fun _ ws => iterLeft ws w5.heap.size)
      case atStart => exact ⟨[], sumsOf l, own_nil _ _ _ _, hit, List.Perm.refl _, x1, hs1⟩
      case round =>
        obtain ⟨L, left, ho, hi, hp, hx2, hsz⟩ := hrel
        rcases hi.next (P := Tryz.prog) 0 with ⟨h1, h2⟩ | ⟨pre, k, v, post, w2, h1, h2, h3, h4, h5, h6, h7⟩
        · have hl0 : left = [] := by simpa [sumV] using h1
          subst hl0
          have hp' : L.Perm (sumsOf l) := by simpa using hp
          have hlen : L.length = (sumsOf l).length := hp'.length_eq
          have hfr := own_fresh ho
          go_wp2_with fail
          refine (lines_Sort (OwnL.own ho) (by simp; omega)).mono ?_
          rintro e w2 ⟨rfl, l', hs, hpm, hsd, hx3⟩
          have hE := funds_of hpm hp' hsd
          go_wp2_with fail
          go_ret
          refine ⟨_, rfl, ?_, (hx.then hx2).trans hx3 (fun b hb hlt => by have := hfr b (by simpa using hb); omega)⟩
          rw [← hE]
          exact own_rebase hs (fun b hb => by have := own_fresh hs b hb; omega)
        · have h1' := h1
          simp only [sumV, List.map_eq_append_iff, List.map_eq_cons_iff] at h1'
          obtain ⟨pre', q', hleft, hpre, q, post', hq, hqk, hpost⟩ := h1'
          subst hq
          obtain ⟨qk, qn⟩ := q
          simp only [Prod.mk.injEq] at hqk
          obtain ⟨rfl, rfl⟩ := hqk
          change _ = Result.ok (Value.tuple #[Value.bool true, Value.int .i64 qk, _]) w2 at h3
          change _ = Result.ok (Value.tuple #[Value.int .i64 qk, _]) w2 at h4
          have hfr := own_fresh ho
          have ho2 := own_ext ho h6 (fun b hb hm => by have := hfr b hb; simp at hm; omega)
          have hlen : L.length + left.length = (sumsOf l).length := by have := hp.length_eq; simpa using this
          have hLb : L.length ≤ 1048576 := by omega
          have hsz2 : w5.heap.size < w2.heap.size := by omega
          have HL := Lib.hid hleft
          have HP := Lib.hid hpre
          have HQ := Lib.hid hpost
          have H1 := Lib.hid h1
          clear h7 hlen hleft hpre hpost h1 hr
          have hLm : (L.map lnF).length ≤ 1048576 := by simpa using hLb
          iterate 90 (first | at_builtin | go_step | skip)
          with_reducible refine app1 (k := 4) Tryz.underlying23 row_line (by decide) ho2 ?_ ?_ ?_ ?_ ?_ ?_ ?_ ?_
          rfl
          simp [Value.oneCell']
          omega
          omega
          omega
          rfl
          rfl
          intro v1 w3 ho3 hx3 hat
          go_wp2_with fail
          go_roundw
          case rel =>
            have hr : w5.heap.size ∉ u6.ownBlock.toList := fun hm => by have := hfr _ (by simpa using hm); omega
            have hc : w.heap.size ∉ u6.ownBlock.toList := fun hm => by have := hfr _ (by simpa using hm); omega
            have hPP : pre ++ post = sumV (pre' ++ post') := by rw [← HP.out, ← HQ.out]; simp [sumV]
            rw [hPP] at h5
            refine ⟨L ++ [(qk, qn)], pre' ++ post', ?_, h5.ext hx3 hc hr, ?_, ?_, ?_⟩
            · rw [List.map_append]
              exact OwnL.snoc (x := lnF (qk, qn)) ho3
            · refine List.Perm.trans ?_ hp
              rw [HL.out]
              simp
              exact List.Perm.append_left _ List.perm_middle.symm
            · exact (hx2.trans h6 (fun b hb hlt => by simp at hb; omega)).trans hx3 (fun b hb hlt => by have := hfr b (by simpa using hb); omega)
            · have := hx3.size; omega
          case measure =>
            have hr : w5.heap.size ∉ u6.ownBlock.toList := fun hm => by have := hfr _ (by simpa using hm); omega
            have hc : w.heap.size ∉ u6.ownBlock.toList := fun hm => by have := hfr _ (by simpa using hm); omega
            rw [(h5.ext hx3 hc hr).left_eq, hi.left_eq, H1.out]
            simp
end Go.Proofs.YtbbfgbkbdhghbaaGreatDoor

set_option linter.unusedVariables false
set_option linter.unusedSimpArgs false
namespace Go.Proofs.YtbbfgbkbdhghbaaGreatDoor
open Go.RowKit

theorem neq_line (W : World) (a b c d a' b' c' d' : Int) : (binOp .neq 37 (.agg #[.int .i64 a, .int .i64 b, .int .i64 c, .int .i64 d]) (.agg #[.int .i64 a', .int .i64 b', .int .i64 c', .int .i64 d'])).run Tryz.prog W = .ok (.bool (!((a, b, c, d) == ((a', b', c', d') : Ln)))) W := by
  have hf : Tryz.prog.fieldsOf 37 = Tryz.prog.fieldsOf 37 := rfl
  have hp : Tryz.prog.stoodInHeld 37 = false := by kernel_rfl
  have hu := Tryz.underlying37
  have hi := Tryz.underlying3
  have ht : Tryz.prog.underlying 37 = some (.struct (Tryz.prog.fieldsOf 37)) := by simp only [Program.fieldsOf, hu]
  rw [run_neq_struct]
  rw [show (10000 : Nat) = 9999 + 1 from rfl, run_equalIn_struct W 9999 _ _ _ ht hp]
  simp only [Program.fieldsOf, hu]
  have hk : Tryz.prog.plainKey 3 = true := by kernel_rfl
  have q : ∀ (x y z t : Int), (part 3 #[.int .i64 x, .int .i64 y, .int .i64 z, .int .i64 t] 0).run Tryz.prog W = .ok (.int .i64 x) W ∧ (part 3 #[.int .i64 x, .int .i64 y, .int .i64 z, .int .i64 t] 1).run Tryz.prog W = .ok (.int .i64 y) W ∧
      (part 3 #[.int .i64 x, .int .i64 y, .int .i64 z, .int .i64 t] 2).run Tryz.prog W = .ok (.int .i64 z) W ∧ (part 3 #[.int .i64 x, .int .i64 y, .int .i64 z, .int .i64 t] 3).run Tryz.prog W = .ok (.int .i64 t) W :=
    fun x y z t => ⟨run_part_plain W hk rfl, run_part_plain W hk rfl, run_part_plain W hk rfl, run_part_plain W hk rfl⟩
  have e : ∀ x y : Int, (Op.equalIn 9999 3 (.int .i64 x) (.int .i64 y)).run Tryz.prog W = .ok (x == y) W := fun x y => run_equalIn_int W 9998 _ _ _ _ _ hi
  simp only [Op.eqFields, Sem.run_bind, Result.andThen_ok, (q a b c d).1, (q a b c d).2.1, (q a b c d).2.2.1, (q a b c d).2.2.2, (q a' b' c' d').1, (q a' b' c' d').2.1, (q a' b' c' d').2.2.1, (q a' b' c' d').2.2.2, e]
  have he : ((a, b, c, d) == ((a', b', c', d') : Ln)) = (a == a' && (b == b' && (c == c' && d == d'))) := rfl
  rw [he]
  by_cases h1 : a = a' <;> by_cases h2 : b = b' <;> by_cases h3 : c = c' <;> by_cases h4 : d = d' <;> simp [h1, h2, h3, h4, e, q, Result.andThen]
end Go.Proofs.YtbbfgbkbdhghbaaGreatDoor

set_option linter.unusedVariables false
set_option linter.unusedSimpArgs false
namespace Go.Proofs.YtbbfgbkbdhghbaaGreatDoor
open Go.RowKit
variable {w : World} {U U1 U2 : TypeId}

theorem lnC_one (l : List Ln) : ∀ u ∈ l.flatMap lnC, u.oneCell' = true := by
  intro u hu
  obtain ⟨x, _, hx⟩ := List.mem_flatMap.1 hu
  simp [lnC] at hx
  rcases hx with rfl | rfl | rfl | rfl <;> rfl

theorem lines_Clone {v : Value} {l : List Ln} (hl : Lns w U v l) (hn : l.length ≤ 1048576) :
    Calls Tryz.prog 18 #[v] w fun e w' => ∃ r, e = .returned r ∧ OwnL w.heap.size w' r l ∧ Ext [] w w' := by
  obtain ⟨p, c, rfl, g1, g2⟩ := Sl.shape hl
  have hnil := fun W => Lib.run_eql_slice_nil (P := Tryz.prog) W 23 37 p l.length c 0 0 Tryz.underlying23
  cases p with
  | none =>
    have : l = [] := by
      obtain ⟨p, c, e, _, _, ⟨h0, _⟩ | ⟨hn, b, off, e1, _⟩⟩ := hl
      · exact List.eq_nil_of_length_eq_zero h0
      · injection e with e; rw [← e] at e1; simp at e1
    subst this
    simp only [List.length_nil] at hnil ⊢
    clear hl g1 g2
    go_enter Tryz.func18, Tryz.ntmps18
    go_wp2_with fail
    go_ret
    exact ⟨_, rfl, own_nil _ _ _ _, Ext.refl _ _⟩
  | some p =>
    have h0 := own_lit w.heap.size 37 4 #[] 0 rfl w (Nat.le_refl _) (by decide)
    have x0 := (Ext.refl [] w).alloc (.cells #[] 37)
    have hv' : Sl _ U _ l.length (l.flatMap lnC) := hl.then x0
    have hl1 : (l.flatMap lnC).length = l.length * 4 := by
      have := flatten_len (k := 4) (l.map lnC) (fun c hc => by obtain ⟨x, _, rfl⟩ := List.mem_map.1 hc; rfl)
      rw [List.flatMap_def, this, List.length_map]
    have hl2 : ∀ u ∈ l.flatMap lnC, u.oneCell' = true := lnC_one l
    go_enter Tryz.func18, Tryz.ntmps18
    iterate 40 (first | at_builtin | go_step | skip)
    with_reducible refine app Tryz.underlying23 row_line (by decide) h0 hv' hl1 hl2 (by omega) (by omega) ?_ ?_ ?_ ?_
    simp
    rfl
    rfl
    intro v' w1 ho hg hat
    go_wp2_with fail
    go_ret
    exact ⟨_, rfl, by simpa [OwnL] using ho, x0.grown hg (by simp [Value.ownBlock])⟩

theorem eq_at {α : Type} [BEq α] [LawfulBEq α] {l m : List α} (hl : l.length = m.length) (h : ∀ (j : Nat) (h1 : j < l.length) (h2 : j < m.length), l[j] = m[j]) : (l == m) = true := by
  rw [beq_iff_eq]
  exact List.ext_getElem hl h
theorem ne_at {α : Type} [BEq α] [LawfulBEq α] {l m : List α} {j : Nat} (h1 : j < l.length) (h2 : j < m.length) (h : (l[j] == m[j]) = false) : (l == m) = false := by
  rw [beq_eq_false_iff_ne] at h ⊢
  intro e
  subst e
  exact h rfl
theorem lines_EqualS {u v : Value} {l m : List Ln} (hu : Lns w U1 u l) (hv : Lns w U2 v m) :
    Calls Tryz.prog 13 #[u, v] w fun e w' => e = .returned (.bool (l == m)) ∧ Ext [] w w' := by
  obtain ⟨p1, c1, rfl, g11, g12⟩ := Sl.shape hu
  obtain ⟨p2, c2, rfl, g21, g22⟩ := Sl.shape hv
  by_cases hl : l.length = m.length
  · have HL := Lib.hid hl
    obtain ⟨n, hn⟩ : ∃ n, n = l.length := ⟨_, rfl⟩
    have hm : m.length = n := by omega
    have HN := Lib.hid hn
    have HM := Lib.hid hm
    rw [← hn] at g11 ⊢
    rw [hm] at g21 ⊢
    clear hl hn hm
    go_enter Tryz.func13, Tryz.ntmps13
    go_wp2_with fail
    go_loopw [13] (fun x wr => ∃ i : Nat, i ≤ n ∧ x = .int .i64 i ∧ (∀ (j : Nat) (h1 : j < l.length) (h2 : j < m.length), j < i → l[j] = m[j]) ∧ Ext [] w wr) (fun x _ => n - (intOf x).toNat)
    case atStart => exact ⟨0, Nat.zero_le _, rfl, fun j _ _ h => by omega, Ext.refl _ _⟩
    case round =>
      obtain ⟨i, hi, rfl, hall, hx⟩ := hrel
      have HA := Lib.hid hall
      clear hall
      by_cases hlt : i < n
      · have hlt1 : i < l.length := by rw [← HN.out]; exact hlt
        have hlt2 : i < m.length := by rw [HM.out]; exact hlt
        obtain ⟨b1, o1, c1', hp1, _⟩ := Sl.at hu (by omega)
        obtain ⟨b2, o2, c2', hp2, _⟩ := Sl.at hv (by omega)
        injection hp1 with hp1 _ hc1
        injection hp2 with hp2 _ hc2
        subst hp1; subst hp2; subst hc1; subst hc2
        obtain ⟨f1, f2, f3, f4⟩ := (hu.then (hx.then (Ext.refl [] wr).drew)).at hlt1
        obtain ⟨g1, g2, g3, g4⟩ := (hv.then (hx.then (Ext.refl [] wr).drew)).at hlt2
        obtain ⟨x, hxx⟩ : ∃ x, x = l[i] := ⟨_, rfl⟩
        obtain ⟨y, hyy⟩ : ∃ y, y = m[i] := ⟨_, rfl⟩
        rw [← hxx] at f1 f2 f3 f4
        rw [← hyy] at g1 g2 g3 g4
        have HX := Lib.hid hxx
        have HY := Lib.hid hyy
        obtain ⟨x1, x2, x3, x4⟩ := x
        obtain ⟨y1, y2, y3, y4⟩ := y
        have hne := fun W => neq_line W x1 x2 x3 x4 y1 y2 y3 y4
        clear hxx hyy
        simp only at f1 f2 f3 f4 g1 g2 g3 g4
        cases hq : (((x1, x2, x3, x4) : Ln) == (y1, y2, y3, y4)) with
        | false =>
          rw [hq] at hne
          have HQ := Lib.hid hq
          clear hq
          go_wp2_with fail
          go_region
          all_goals
            go_wp2_with fail
            go_ret
            exact ⟨ret_bool (ne_at hlt1 hlt2 (by rw [← HX.out, ← HY.out]; exact HQ.out)).symm, hx.drew⟩
        | true =>
          rw [hq] at hne
          have HQ := Lib.hid (show ((x1, x2, x3, x4) : Ln) = (y1, y2, y3, y4) from by simpa using hq)
          clear hq
          go_wp2_with fail
          go_region
          all_goals
            go_wp2_with fail
            refine ⟨⟨i + 1, by omega, by go_num, fun j h1 h2 hj => ?_, hx.drew⟩, by simp [intOf]; omega⟩
            rcases Nat.lt_succ_iff_lt_or_eq.1 hj with hj | rfl
            · exact HA.out j h1 h2 hj
            · rw [← HX.out, ← HY.out]; exact HQ.out
      · have e : i = n := by omega
        subst e
        go_wp2_with fail
        go_ret
        exact ⟨ret_bool (eq_at HL.out (fun j h1 h2 => HA.out j h1 h2 (by rw [HN.out]; exact h1))).symm, hx⟩
  · have HE := Lib.hid (show (l == m) = false by rw [beq_eq_false_iff_ne]; exact fun e => hl (by rw [e]))
    have hl' : ¬ ((l.length : Int) = m.length) := by omega
    go_enter Tryz.func13, Tryz.ntmps13
    go_wp2_with fail
    go_ret
    exact ⟨ret_bool HE.out.symm, Ext.refl _ _⟩

theorem flat_set (l : List Ln) : ∀ (i : Nat) (y : Ln), i < l.length → ((((l.flatMap lnC).set (i * 4) (.int .i64 y.1)).set (i * 4 + 1) (.int .i64 y.2.1)).set (i * 4 + 2) (.int .i64 y.2.2.1)).set (i * 4 + 3) (.int .i64 y.2.2.2) = (l.set i y).flatMap lnC := by
  induction l with
  | nil => intro i y h; simp at h
  | cons a l ih =>
    intro i y h
    cases i with
    | zero => simp [lnC]
    | succ i =>
      have := ih i y (by simpa using h)
      have e : (i + 1) * 4 = i * 4 + 1 + 1 + 1 + 1 := by omega
      simp only [List.flatMap_cons, lnC, e, List.cons_append, List.nil_append, List.set_cons_succ] at this ⊢
      rw [this]
theorem own_set4 {w : World} {base T g n cap : Nat} {l : List Ln} (h : w.ownsRow base T 4 (.slice (some ⟨g, 0, none⟩) n cap) n (l.flatMap lnC)) {i : Nat} (hi : i < l.length) (y : Ln) :
    ((((w.setCell ⟨g, i * 4, none⟩ (.int .i64 y.1)).setCell ⟨g, i * 4 + 1, none⟩ (.int .i64 y.2.1)).setCell ⟨g, i * 4 + 2, none⟩ (.int .i64 y.2.2.1)).setCell ⟨g, i * 4 + 3, none⟩ (.int .i64 y.2.2.2)).ownsRow base T 4 (.slice (some ⟨g, 0, none⟩) n cap) n ((l.set i y).flatMap lnC) := by
  obtain ⟨hl, ⟨h0, _⟩ | ⟨g', cap', cur, hv, hb, hg, h1, h2, h3, h4⟩⟩ := h
  · cases h0
  · cases hv
    refine ⟨by rw [← flat_set l i y hi]; simpa using hl, .inr ⟨g, cap, _, rfl, hb, setCell_at (setCell_at (setCell_at (setCell_at hg _) _) _) _, h1, h2, by simpa using h3, ?_⟩⟩
    rw [← flat_set l i y hi, ← h4]
    simp only [Array.toList_setIfInBounds, List.take_set]
theorem ext_set4 (w : World) (g i : Nat) (y : Ln) : Ext [g] w ((((w.setCell ⟨g, i * 4, none⟩ (.int .i64 y.1)).setCell ⟨g, i * 4 + 1, none⟩ (.int .i64 y.2.1)).setCell ⟨g, i * 4 + 2, none⟩ (.int .i64 y.2.2.1)).setCell ⟨g, i * 4 + 3, none⟩ (.int .i64 y.2.2.2)) :=
  ((((Ext.refl [g] w).setCell (fun _ => by simp) _).setCell (fun _ => by simp) _).setCell (fun _ => by simp) _).setCell (fun _ => by simp) _

theorem lines_Reverse {base : Nat} {v : Value} {l : List Ln} (hl : OwnL base w v l) (hn : l.length ≤ 1048576) :
    Calls Tryz.prog 19 #[v] w fun e w' => e = .returned (.tuple #[]) ∧ OwnL base w' v l.reverse ∧ Ext v.ownBlock.toList w w' := by
  obtain ⟨p, c, rfl, g1, g2⟩ := own_size hl.own
  go_enter Tryz.func19, Tryz.ntmps19
  go_wp2_with fail
  go_loopw [2, 3] (fun x y wr => ∃ (i : Nat) (L : List Ln), x = .int .i64 i ∧ y = .int .i64 ((l.length : Int) - 1 - i) ∧ L.length = l.length ∧ (2 * i ≤ l.length + 1) ∧ OwnL base wr (.slice p l.length c) L ∧ (∀ t, t < l.length → L[t]? = if t < i ∨ l.length - 1 - i < t then l[l.length - 1 - t]? else l[t]?) ∧ Ext (Value.ownBlock (.slice p l.length c)).toList w wr) (fun x y _ => (intOf y - intOf x + 1).toNat)
  case atStart => exact ⟨0, l, rfl, by simp, rfl, by omega, hl, fun t ht => by rw [if_neg (by omega)], Ext.refl _ _⟩
  case round =>
    obtain ⟨i, L, rfl, rfl, hLl, hi2, ho, hL, hx⟩ := hrel
    by_cases hlt : (i : Int) < (l.length : Int) - 1 - i
    · obtain ⟨j, hj⟩ : ∃ j : Nat, (l.length : Int) - 1 - i = j := ⟨l.length - 1 - i, by omega⟩
      rw [hj]
      have hjl : j < L.length := by omega
      have hil : i < L.length := by omega
      obtain ⟨g, rfl⟩ : ∃ g, p = some ⟨g, 0, none⟩ := by
        obtain ⟨_, ⟨h0, h00⟩ | ⟨g, cap, cur, hv, _⟩⟩ := hl
        · omega
        · injection hv with hv; exact ⟨g, hv⟩
      have ho1 := ho.own
      rw [hLl] at ho1
      obtain ⟨cur, hg, hcs, _⟩ := own_cells ho1
      have zi0 : wr.drew.frozen? ⟨g, i * 4, none⟩ = false := frozen_of_row wr.drew g _ _ _ hg
      have zi1 : wr.drew.frozen? ⟨g, i * 4 + 1, none⟩ = false := frozen_of_row wr.drew g _ _ _ hg
      have zi2 : wr.drew.frozen? ⟨g, i * 4 + 2, none⟩ = false := frozen_of_row wr.drew g _ _ _ hg
      have zi3 : wr.drew.frozen? ⟨g, i * 4 + 3, none⟩ = false := frozen_of_row wr.drew g _ _ _ hg
      have zj0 : wr.drew.frozen? ⟨g, j * 4, none⟩ = false := frozen_of_row wr.drew g _ _ _ hg
      have zj1 : wr.drew.frozen? ⟨g, j * 4 + 1, none⟩ = false := frozen_of_row wr.drew g _ _ _ hg
      have zj2 : wr.drew.frozen? ⟨g, j * 4 + 2, none⟩ = false := frozen_of_row wr.drew g _ _ _ hg
      have zj3 : wr.drew.frozen? ⟨g, j * 4 + 3, none⟩ = false := frozen_of_row wr.drew g _ _ _ hg
      have hod := ho.then (Ext.refl [] wr).drew
      obtain ⟨f1, f2, f3, f4⟩ := hod.rd.at hil
      obtain ⟨d1, d2, d3, d4⟩ := hod.rd.at hjl
      simp only [Nat.zero_add] at f1 f2 f3 f4 d1 d2 d3 d4
      obtain ⟨x, hx'⟩ : ∃ x, x = L[i] := ⟨_, rfl⟩
      obtain ⟨y, hy'⟩ : ∃ y, y = L[j] := ⟨_, rfl⟩
      rw [← hx'] at f1 f2 f3 f4
      rw [← hy'] at d1 d2 d3 d4
      have HX := Lib.hid hx'
      have HY := Lib.hid hy'
      have HJ := Lib.hid hj
      have hij : (i : Int) < (j : Int) := by omega
      have hjc : j < l.length := by omega
      have hic : i < l.length := by omega
      have yi0 : wr.frozen? ⟨g, i * 4, none⟩ = false := frozen_of_row wr g _ _ _ hg
      have yi1 : wr.frozen? ⟨g, i * 4 + 1, none⟩ = false := frozen_of_row wr g _ _ _ hg
      have yi2 : wr.frozen? ⟨g, i * 4 + 2, none⟩ = false := frozen_of_row wr g _ _ _ hg
      have yi3 : wr.frozen? ⟨g, i * 4 + 3, none⟩ = false := frozen_of_row wr g _ _ _ hg
      have yj0 : wr.frozen? ⟨g, j * 4, none⟩ = false := frozen_of_row wr g _ _ _ hg
      have yj1 : wr.frozen? ⟨g, j * 4 + 1, none⟩ = false := frozen_of_row wr g _ _ _ hg
      have yj2 : wr.frozen? ⟨g, j * 4 + 2, none⟩ = false := frozen_of_row wr g _ _ _ hg
      have yj3 : wr.frozen? ⟨g, j * 4 + 3, none⟩ = false := frozen_of_row wr g _ _ _ hg
      have h1 : wr.cell? ⟨g, i * 4, none⟩ = some (.int .i64 x.1) := f1
      have h2 : wr.cell? ⟨g, i * 4 + 1, none⟩ = some (.int .i64 x.2.1) := f2
      have h3 : wr.cell? ⟨g, i * 4 + 2, none⟩ = some (.int .i64 x.2.2.1) := f3
      have h4 : wr.cell? ⟨g, i * 4 + 3, none⟩ = some (.int .i64 x.2.2.2) := f4
      have k1 : wr.cell? ⟨g, j * 4, none⟩ = some (.int .i64 y.1) := d1
      have k2 : wr.cell? ⟨g, j * 4 + 1, none⟩ = some (.int .i64 y.2.1) := d2
      have k3 : wr.cell? ⟨g, j * 4 + 2, none⟩ = some (.int .i64 y.2.2.1) := d3
      have k4 : wr.cell? ⟨g, j * 4 + 3, none⟩ = some (.int .i64 y.2.2.2) := d4
      clear hx' hy' hj hlt
      go_wp2_with fail
      go_region
      all_goals
        go_wp2_with fail
        have hJ := HJ.out
        have s1 := own_set4 ho1 hil y
        have s2 := own_set4 s1 (i := j) (by simpa using hjl) x
        have ex := (ext_set4 wr g i y).same (ext_set4 _ g j x)
        have hxi : l[i]? = some x := by
          have := hL i (by omega)
          rw [if_neg (by omega), List.getElem?_eq_getElem hil, ← HX.out] at this
          exact this.symm
        have hyj : l[j]? = some y := by
          have := hL j (by omega)
          rw [if_neg (by omega), List.getElem?_eq_getElem hjl, ← HY.out] at this
          exact this.symm
        refine ⟨⟨i + 1, (L.set i y).set j x, by go_num, by congr 1; omega, by simpa using hLl, by omega, ?_, fun t ht => ?_, (hx.same (by simpa [Value.ownBlock] using ex)).drew⟩, by simp [intOf]; omega⟩
        · unfold OwnL
          rw [List.length_set, List.length_set, hLl]
          exact own_then s2 (Ext.refl [] _).drew
        · have e1 : ((L.set i y).set j x)[t]? = if j = t then some x else if i = t then some y else L[t]? := by
            rw [List.getElem?_set, List.getElem?_set]
            by_cases q1 : j = t
            · subst q1; simp [hjl]
            · by_cases q2 : i = t
              · subst q2; simp [q1, hil]
              · simp [q1, q2]
          rw [e1]
          by_cases q1 : j = t
          · subst q1
            rw [if_pos rfl, if_pos (by omega), show l.length - 1 - j = i by omega, hxi]
          · rw [if_neg q1]
            by_cases q2 : i = t
            · subst q2
              rw [if_pos rfl, if_pos (by omega), show l.length - 1 - i = j by omega, hyj]
            · rw [if_neg q2, hL t ht]
              by_cases q3 : t < i ∨ l.length - 1 - i < t
              · rw [if_pos q3, if_pos (by omega)]
              · rw [if_neg q3, if_neg (by omega)]
    · go_wp2_with fail
      go_end0
      have e : L = l.reverse := by
        apply List.ext_getElem?
        intro t
        by_cases ht : t < l.length
        · rw [hL t ht, List.getElem?_reverse ht]
          by_cases q3 : t < i ∨ l.length - 1 - i < t
          · rw [if_pos q3]
          · rw [if_neg q3, show l.length - 1 - t = t by omega]
        · rw [List.getElem?_eq_none (by omega), List.getElem?_eq_none (by simpa using ht)]
      subst e
      exact ⟨rfl, ho, hx⟩
theorem flat_take (l : List Ln) : ∀ k, (l.flatMap lnC).take (k * 4) = (l.take k).flatMap lnC := by
  induction l with
  | nil => intro k; simp
  | cons a l ih =>
    intro k
    cases k with
    | zero => simp
    | succ k =>
      have e : (k + 1) * 4 = k * 4 + 1 + 1 + 1 + 1 := by omega
      have := ih k
      simp only [List.flatMap_cons, List.take_succ_cons, lnC, e, List.cons_append, List.nil_append] at this ⊢
      rw [this]
theorem flat_drop (l : List Ln) : ∀ k, (l.flatMap lnC).drop (k * 4) = (l.drop k).flatMap lnC := by
  induction l with
  | nil => intro k; simp
  | cons a l ih =>
    intro k
    cases k with
    | zero => simp
    | succ k =>
      have e : (k + 1) * 4 = k * 4 + 1 + 1 + 1 + 1 := by omega
      have := ih k
      simp only [List.flatMap_cons, List.drop_succ_cons, lnC, e, List.cons_append, List.nil_append] at this ⊢
      rw [this]
theorem Lns.take {b off m c : Nat} {l : List Ln} (h : Lns w U (.slice (some ⟨b, off, none⟩) m c) l) (k : Nat) (hk : k ≤ l.length) : Lns w U (.slice (some ⟨b, off, none⟩) k c) (l.take k) := by
  obtain ⟨p', c', e, h1, h2, h3⟩ := h
  injection e with e1 e2 e3
  subst e1; subst e3
  have hl : (l.take k).length = k := by rw [List.length_take]; omega
  refine ⟨_, _, by rw [hl], by omega, h2, ?_⟩
  rcases Nat.eq_zero_or_pos k with rfl | hp
  · left; simp
  · right
    rcases h3 with ⟨h3, _⟩ | ⟨h3, b', off', e, hr⟩
    · omega
    · injection e with e; injection e with e1 e2; subst e1; subst e2
      have hlen : (l.flatMap lnC).length = l.length * 4 := by
        have := flatten_len (k := 4) (l.map lnC) (fun c hc => by obtain ⟨x, _, rfl⟩ := List.mem_map.1 hc; rfl)
        rw [List.flatMap_def, this, List.length_map]
      refine ⟨by omega, _, _, rfl, ?_⟩
      have := hr.sub 0 (k * 4) (by rw [hlen]; omega)
      rw [Nat.add_zero, List.drop_zero, flat_take] at this
      exact this
theorem Lns.drop {b off m c : Nat} {l : List Ln} (h : Lns w U (.slice (some ⟨b, off, none⟩) m c) l) (k : Nat) (hk : k < l.length) : Lns w U (.slice (some ⟨b, off + k * 4, none⟩) (l.length - k) (c - k)) (l.drop k) := by
  obtain ⟨p', c', e, h1, h2, h3⟩ := h
  injection e with e1 e2 e3
  subst e1; subst e3
  rcases h3 with ⟨h3, _⟩ | ⟨h3, b', off', e, hr⟩
  · omega
  · injection e with e; injection e with e1 e2; subst e1; subst e2
    have hlen : (l.flatMap lnC).length = l.length * 4 := by
      have := flatten_len (k := 4) (l.map lnC) (fun c hc => by obtain ⟨x, _, rfl⟩ := List.mem_map.1 hc; rfl)
      rw [List.flatMap_def, this, List.length_map]
    refine ⟨_, _, by rw [List.length_drop], by rw [List.length_drop]; omega, by omega, .inr ⟨by rw [List.length_drop]; omega, _, _, rfl, ?_⟩⟩
    have := hr.sub (k * 4) ((l.length - k) * 4) (by rw [hlen, Nat.sub_mul]; omega)
    rw [List.take_of_length_le (by rw [List.length_drop, hlen, Nat.sub_mul]; omega), flat_drop] at this
    exact this

end Go.Proofs.YtbbfgbkbdhghbaaGreatDoor

set_option linter.unusedVariables false
set_option linter.unusedSimpArgs false
namespace Go.Proofs.YtbbfgbkbdhghbaaGreatDoor
open Go.RowKit
variable {w : World} {U : TypeId}

theorem order_1 (x y : Ln) (W : World) : Calls Tryz.prog 21 #[lnV x, lnV y] W fun e w' => e = .returned (.int .i64 (cmpI x.1 y.1)) ∧ Ext [] W w' := by
  have hC := fun W => cmp_Compare x.1 y.1 W
  simp only [lnV]
  go_enter Tryz.func21, Tryz.ntmps21
  go_wp2_with (go_at_call 22; refine (hC _).mono ?_; rintro e w' ⟨rfl, rfl⟩)
  go_ret
  exact ⟨rfl, ((Ext.refl [] W).alloc _).alloc _⟩

theorem lines_IsSorted {v : Value} {l : List Ln} (hl : Lns w U v l) (hs : ∀ i (h : i + 1 < l.length), ¬ l[i + 1].1 < l[i].1) :
    Calls Tryz.prog 20 #[v, .func (.func 21) #[] #[]] w fun e w' => e = .returned (.bool true) ∧ Ext [] w w' := by
  obtain ⟨p, c, rfl, g1, g2⟩ := Sl.shape hl
  go_enter Tryz.func20, Tryz.ntmps20
  go_wp2_with fail
  go_loopw [5] (fun x wr => ∃ z : Int, x = .int .i64 z ∧ -1 ≤ z ∧ z ≤ (l.length : Int) - 1 ∧ Ext [] w wr) (fun x _ => (intOf x + 1).toNat)
  case atStart => exact ⟨_, rfl, by omega, by omega, Ext.refl _ _⟩
  case round =>
    obtain ⟨z, rfl, hz1, hz2, hx⟩ := hrel
    by_cases hz : 0 < z
    · obtain ⟨k, rfl⟩ : ∃ k : Nat, z = (k : Int) := ⟨z.toNat, by omega⟩
      obtain ⟨i, hki⟩ : ∃ i : Nat, (k : Int) - 1 = (i : Int) := ⟨k - 1, by omega⟩
      have hlt : k < l.length := by omega
      have hlt2 : i < l.length := by omega
      obtain ⟨b, off, c', hpp, _⟩ := Sl.at hl (by omega)
      injection hpp with hpp _ hc'
      subst hpp; subst hc'
      have hc : ¬ l[k].1 < l[i].1 := by
        have e : k = i + 1 := by omega
        subst e
        exact Int.not_lt.2 (hs i hlt)
      obtain ⟨f1, f2, f3, f4⟩ := (hl.then hx.drew).at hlt
      obtain ⟨g1, g2, g3, g4⟩ := (hl.then hx.drew).at hlt2
      have hO := fun W => order_1 l[k] l[i] W
      simp only [lnV] at hO
      generalize l[k] = x at *
      generalize l[i] = y at *
      have hn : ¬ cmpI x.1 y.1 < 0 := by
        unfold cmpI
        rw [if_neg (by omega)]
        split <;> omega
      generalize cmpI x.1 y.1 = r at *
      have q1 : (k : Int) < (l.length : Int) := by omega
      have q2 : (i : Int) < (l.length : Int) := by omega
      have hw : IntKind.i64.wrap (i : Int) = (i : Int) := by rw [IntKind.wrap_i64]; omega
      have hn2 : decide (r < 0) = false := decide_eq_false hn
      have hn3 : (0 : Int) ≤ r := by omega
      clear hs hc hn
      go_wp2_with fail
      go_region_held3 (fun W => W.cell? ⟨b, off + k * 4, none⟩ = some (.int .i64 x.1) ∧ W.cell? ⟨b, off + k * 4 + 1, none⟩ = some (.int .i64 x.2.1) ∧ W.cell? ⟨b, off + k * 4 + 2, none⟩ = some (.int .i64 x.2.2.1) ∧ W.cell? ⟨b, off + k * 4 + 3, none⟩ = some (.int .i64 x.2.2.2) ∧
          W.cell? ⟨b, off + i * 4, none⟩ = some (.int .i64 y.1) ∧ W.cell? ⟨b, off + i * 4 + 1, none⟩ = some (.int .i64 y.2.1) ∧ W.cell? ⟨b, off + i * 4 + 2, none⟩ = some (.int .i64 y.2.2.1) ∧ W.cell? ⟨b, off + i * 4 + 3, none⟩ = some (.int .i64 y.2.2.2))
        (first | exact ⟨f1, f2, f3, f4, g1, g2, g3, g4⟩ | exact ⟨x2.cell (by simp) f1, x2.cell (by simp) f2, x2.cell (by simp) f3, x2.cell (by simp) f4, x2.cell (by simp) g1, x2.cell (by simp) g2, x2.cell (by simp) g3, x2.cell (by simp) g4⟩) (first | (go_at_call 21; refine (hO _).mono ?_; rintro e w2 ⟨rfl, x2⟩))
      all_goals
        go_wp2_with fail
        exact ⟨⟨(i : Int), by go_num, by omega, by omega, hx.drew.then x2⟩, by simp [intOf]; omega⟩
    · go_wp2_with fail
      go_ret
      exact ⟨rfl, hx⟩

end Go.Proofs.YtbbfgbkbdhghbaaGreatDoor

set_option linter.unusedVariables false
set_option linter.unusedSimpArgs false
namespace Go.Proofs.YtbbfgbkbdhghbaaGreatDoor
open Go.RowKit
variable {w : World} {U : TypeId}

theorem equal_1 (x : Ln) (W : World) : Calls Tryz.prog 42 #[lnV x] W fun e w' => e = .returned (.bool (x.2.2.2 != 0)) ∧ Ext [] W w' := by
  simp only [lnV]
  go_enter Tryz.func42, Tryz.ntmps42
  go_wp2_with fail
  go_ret
  exact ⟨rfl, (Ext.refl [] W).alloc _⟩

def badA (x : Ln) : Bool := x.2.2.2 != 0
theorem equal_Index {v : Value} {l : List Ln} (hl : Lns w U v l) :
    Calls Tryz.prog 61 #[v, .func (.func 42) #[] #[]] w fun e w' => (∃ i : Int, e = .returned (.int .i64 i) ∧ (i < 0 ∧ l.any badA = false ∨ 0 ≤ i ∧ l.any badA = true)) ∧ Ext [] w w' := by
  obtain ⟨p, c, rfl, g1, g2⟩ := Sl.shape hl
  go_enter Tryz.func61, Tryz.ntmps61
  go_wp2_with fail
  go_loopw [8] (fun s wr => ∃ i : Nat, i ≤ l.length ∧ s = .int .i64 i ∧ (l.take i).any badA = false ∧ Ext [] w wr) (fun s _ => l.length - (intOf s).toNat)
  case atStart => exact ⟨0, Nat.zero_le _, rfl, rfl, Ext.refl _ _⟩
  case round =>
    obtain ⟨i, hi, rfl, hall, hx⟩ := hrel
    have HA := Lib.hid hall
    clear hall
    by_cases hlt : i < l.length
    · obtain ⟨b, off, c', hpp, _⟩ := Sl.at hl (by omega)
      injection hpp with hpp _ hc'
      subst hpp; subst hc'
      obtain ⟨f1, f2, f3, f4⟩ := (hl.then hx).at hlt
      have hT := List.take_succ_eq_append_getElem hlt
      have hS := fun W => equal_1 l[i] W
      have hM : l[i] ∈ l := List.getElem_mem hlt
      simp only [lnV] at hS
      generalize l[i] = x at *
      cases hq : (x.2.2.2 != 0) with
      | true =>
        rw [hq] at hS
        have HQ := Lib.hid hq
        clear hq hT
        go_wp2_with (go_at_call 42; refine (hS _).mono ?_; rintro e w2 ⟨rfl, x2⟩)
        go_ret
        exact ⟨⟨_, rfl, .inr ⟨by omega, List.any_eq_true.2 ⟨x, hM, HQ.out⟩⟩⟩, hx.then x2⟩
      | false =>
        rw [hq] at hS
        have HQ := Lib.hid (show (l.take (i + 1)).any badA = false by rw [hT, List.any_append, HA.out]; simp [badA, hq])
        clear hq hT
        go_wp2_with (go_at_call 42; refine (hS _).mono ?_; rintro e w2 ⟨rfl, x2⟩)
        exact ⟨⟨i + 1, by omega, by go_num, HQ.out, hx.then x2⟩, by simp [intOf]; omega⟩
    · have e : i = l.length := by omega
      subst e
      go_wp2_with fail
      go_ret
      have := HA.out
      rw [List.take_length] at this
      exact ⟨⟨_, rfl, .inl ⟨by decide, this⟩⟩, hx⟩

theorem equal_Contains {v : Value} {l : List Ln} (hv : Lns w U v l) :
    Calls Tryz.prog 41 #[v, .func (.func 42) #[] #[]] w fun e w' => e = .returned (.bool (l.any badA)) ∧ Ext [] w w' := by
  obtain ⟨p, c, rfl, hc1, hc2⟩ := Sl.shape hv
  have hI := equal_Index hv
  cases hq : l.any badA with
  | true =>
    go_enter Tryz.func41, Tryz.ntmps41
    go_wp2_with (go_at_call 61; refine hI.mono ?_; rintro e w' ⟨⟨i, rfl, hi⟩, x⟩; have hi' : 0 ≤ i := by (rcases hi with h | h; (· rw [hq] at h; simp at h); exact h.1))
    go_ret
    exact ⟨ret_bool (by simp [hi']), x⟩
  | false =>
    go_enter Tryz.func41, Tryz.ntmps41
    go_wp2_with (go_at_call 61; refine hI.mono ?_; rintro e w' ⟨⟨i, rfl, hi⟩, x⟩; have hi' : i < 0 := by (rcases hi with h | h; (· exact h.1); (rw [hq] at h; simp at h)))
    go_ret
    exact ⟨ret_bool (by simp; omega), x⟩

theorem lines_Equal {v : Value} {l : List Ln} (hl : Lns w U v l) (hn : l.length ≤ 1048576) :
    Calls Tryz.prog 16 #[v] w fun e w' => e = .returned (.bool (!(fundsL l).any badA)) ∧ Ext [] w w' := by
  obtain ⟨p, c, rfl, hc1, hc2⟩ := Sl.shape hl
  have hF := lines_Funds hl hn
  go_enter Tryz.func16, Tryz.ntmps16
  go_wp2_with (first
    | (go_at_call 14; refine hF.mono ?_; rintro e w1 ⟨r1, rfl, o1, x1⟩)
    | (go_at_call 41; refine (equal_Contains o1.rd).mono ?_; rintro e w2 ⟨rfl, x2⟩))
  go_ret
  exact ⟨ret_bool (by simp), x1.then x2⟩
end Go.Proofs.YtbbfgbkbdhghbaaGreatDoor

set_option linter.unusedVariables false
set_option linter.unusedSimpArgs false
namespace Go.Proofs.YtbbfgbkbdhghbaaGreatDoor
open Go.RowKit
variable {w : World} {U : TypeId}

def L1 : List Ln := [(100, 1010, 0, 5), (100, 3000, 0, -5)]
def L2 : List Ln := [(100, 1010, 0, 5), (100, 3000, 0, -4)]
def TA : Tbl := (newFund [] 100 [97]).2
theorem TA_e : (newFund [] 100 [97]).1 = 0 := by decide +kernel
theorem L1_check : checkL TA L1 = 0 := by decide +kernel
theorem L2_check : checkL TA L2 = 10 := by decide +kernel
theorem L1_funds : (!(fundsL L1).any badA) = true := by
  have e : sumsOf L1 = [(100, 0)] := by decide +kernel
  simp [fundsL, fundsOf, e, lnF, badA]
theorem L2_funds : (!(fundsL L2).any badA) = false := by
  have e : sumsOf L2 = [(100, 1)] := by decide +kernel
  simp [fundsL, fundsOf, e, lnF, badA]

theorem law23_awake (w : World) : Calls Tryz.prog 6 #[] w fun e w' => e = .returned (.bool true) ∧ Ext [] w w' := by
  go_enter Tryz.func6, Tryz.ntmps6
  go_wp2_with fail
  refine (view_New w).mono ?_
  rintro e w1 ⟨V, rfl, h1, x1, hV⟩
  dsimp only
  have e0 : str [97] = ⟨#[97]⟩ := rfl
  have hNF := chart_NewFund h1 (by decide) 100 [97] (by decide)
  rw [TA_e, e0] at hNF
  go_wp2_with (go_at_call 9; refine hNF.mono ?_; rintro e w2 ⟨rfl, h2, x2⟩)
  have h2' : IsView w2 V 1 [] TA := h2
  have hal := heap_alloc_new w2 (.cells #[.int .i64 100, .int .i64 1010, .int .i64 0, .int .i64 5, .int .i64 100, .int .i64 3000, .int .i64 0, .int .i64 (-5)] 37)
  have xa := (Ext.refl [] w2).alloc (.cells #[.int .i64 100, .int .i64 1010, .int .i64 0, .int .i64 5, .int .i64 100, .int .i64 3000, .int .i64 0, .int .i64 (-5)] 37)
  have hL : Lns (w2.alloc (.cells #[.int .i64 100, .int .i64 1010, .int .i64 0, .int .i64 5, .int .i64 100, .int .i64 3000, .int .i64 0, .int .i64 (-5)] 37)) 37 (.slice (some ⟨w2.heap.size, 0, none⟩) 2 2) L1 :=
    Sl.lit 37 4 #[.int .i64 100, .int .i64 1010, .int .i64 0, .int .i64 5, .int .i64 100, .int .i64 3000, .int .i64 0, .int .i64 (-5)] 2 (by decide) rfl w2 (by decide)
  have hva := h2'.then xa
  have hC := lines_Check hva hL
  rw [L1_check] at hC
  have hsz := (x1.then (Ext.refl [] w1)).size
  have hsz2 := x2.size
  have hlt := h2'.lt
  generalize (w2.alloc (.cells #[.int .i64 100, .int .i64 1010, .int .i64 0, .int .i64 5, .int .i64 100, .int .i64 3000, .int .i64 0, .int .i64 (-5)] 37)) = wa at *
  generalize hg : w2.heap.size = g at *
  clear e0 hNF
  go_wp2_with (first
    | (go_at_call 11; refine hC.mono ?_; rintro e w3 ⟨rfl, x3⟩; have hE := lines_Equal (hL.then x3) (by decide); rw [L1_funds] at hE; have hal3 := x3.at hal (by simp))
    | (go_at_call 16; refine hE.mono ?_; rintro e w4 ⟨rfl, x4⟩; have hal4 := x4.at hal3 (by simp); have z4 : w4.frozen? ⟨g, 7, none⟩ = false := frozen_of_row w4 g 7 _ _ hal4; have c4 := cell_of (off := 7) hal4 rfl))
  have x5 : Ext [g] w4 (w4.setCell ⟨g, 7, none⟩ (.int .i64 (-4))) := (Ext.refl [g] w4).setCell (fun _ => by simp) _
  have h5 := setCell_at (off := 7) hal4 (.int .i64 (-4))
  have hL5 : Lns (w4.setCell ⟨g, 7, none⟩ (.int .i64 (-4))) 37 (.slice (some ⟨g, 0, none⟩) 2 2) L2 :=
    ⟨_, _, rfl, by decide, by decide, .inr ⟨by decide, g, 0, rfl, _, _, h5, by decide, rfl⟩⟩
  have hv5 : IsView (w4.setCell ⟨g, 7, none⟩ (.int .i64 (-4))) V 1 [] TA := ((hva.then x3).then x4).ext x5 (fun b hb => by simp at hb; omega) (fun b hb cs fr hh => by
    simp at hb
    subst hb
    rw [hal4] at hh; injection hh with hh; injection hh with _ hh _; revert hh; decide)
  have hC5 := lines_Check hv5 hL5
  rw [L2_check] at hC5
  have xz : Ext [] w (w4.setCell ⟨g, 7, none⟩ (.int .i64 (-4))) := ((x1.trans x2 (fun b hb hl => absurd hl (Nat.not_lt.2 (hV b hb)))).then ((xa.then x3).then x4)).trans x5 (fun b hb hl => by simp at hb; omega)
  generalize (w4.setCell ⟨g, 7, none⟩ (.int .i64 (-4))) = w5 at *
  go_wp2_with (first
    | (go_at_call 11; refine hC5.mono ?_; rintro e w6 ⟨rfl, x6⟩; have hE6 := lines_Equal (hL5.then x6) (by decide); rw [L2_funds] at hE6)
    | (go_at_call 16; refine hE6.mono ?_; rintro e w7 ⟨rfl, x7⟩))
  go_ret
  exact ⟨rfl, (xz.then x6).then x7⟩
theorem plain_Lines {v : Value} {l : List Ln} (hl : Lns w U v l) : Calls Tryz.prog 5 #[v] w fun e w' => e = .returned (.bool (decide ((l.length : Int) ≤ 30))) ∧ w = w' := by
  obtain ⟨p, c, rfl, g1, g2⟩ := Sl.shape hl
  go_enter Tryz.func5, Tryz.ntmps5
  go_wp2_with fail
  go_ret
  exact ⟨rfl, rfl⟩

end Go.Proofs.YtbbfgbkbdhghbaaGreatDoor
