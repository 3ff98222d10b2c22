/-
  lines.Funds: funds, rising, with all their amounts together.
-/
import Derived.Test.YtbbfgbkbdhghbaaGreatDoorLines
import Derived.Test.YtbbfgbkbdhghbaaGreatDoorSortL
set_option linter.unusedVariables false
set_option linter.unusedSimpArgs false
namespace Go.Proofs.YtbbfgbkbdhghbaaGreatDoor
open Go.RowKit
variable {w : World} {U : TypeId}

def fadd (m : List (Int × Int)) (f a : Int) : List (Int × Int) := aput m f (wrap64 ((alook m f).getD 0 + a))
def sumsOf (l : List Ln) : List (Int × Int) := l.foldl (fun m x => fadd m x.1 x.2.2.2) []
/-- entries of the map of sums -/
def sumV (m : List (Int × Int)) : List (Int × Value) := m.map fun p => (p.1, .int .i64 p.2)

/-- strictly rising by the fund -/
def RiseI (l : List (Int × Int)) : Prop := l.Pairwise (fun a b => a.1 < b.1)
theorem RiseI.nodup {l : List (Int × Int)} (h : RiseI l) : l.Nodup := List.Pairwise.imp (S := fun (a b : Int × Int) => a ≠ b) (fun h e => by rw [e] at h; omega) h
theorem RiseI.perm_eq {A C : List (Int × Int)} (hp : A.Perm C) (ha : RiseI A) (hb : RiseI C) : A = C :=
  hp.eq_of_pairwise (le := fun (a b : Int × Int) => a.1 < b.1) (fun a b _ _ h1 h2 => by omega) ha hb
def fundsOf (l : List Ln) : List (Int × Int) := (sumsOf l).mergeSort fun a b => decide (a.1 ≤ b.1)
def lnF (p : Int × Int) : Ln := (p.1, 0, 0, p.2)
def fundsL (l : List Ln) : List Ln := (fundsOf l).map lnF
theorem aput_nodup (m : List (Int × Int)) (k n : Int) (h : (m.map (·.1)).Nodup) : ((aput m k n).map (·.1)).Nodup := by
  unfold aput
  split
  · have e : (m.map (fun p => if p.1 = k then (k, n) else p)).map (·.1) = m.map (·.1) := by
      rw [List.map_map]
      apply List.map_congr_left
      intro p _
      by_cases e : p.1 = k <;> simp [e]
    rw [e]; exact h
  · rename_i hn
    rw [List.map_append, List.nodup_append]
    refine ⟨h, by simp, ?_⟩
    intro a ha b hb
    simp at hb
    subst hb
    intro e
    subst e
    obtain ⟨p, hp, rfl⟩ := List.mem_map.1 ha
    apply hn
    simp only [alook, Option.isSome_map, List.find?_isSome]
    exact ⟨p, hp, by simp⟩
theorem sumsOf_nodup (l : List Ln) : ((sumsOf l).map (·.1)).Nodup := by
  have : ∀ (l : List Ln) (m : List (Int × Int)), (m.map (·.1)).Nodup → ((l.foldl (fun m x => fadd m x.1 x.2.2.2) m).map (·.1)).Nodup := by
    intro l
    induction l with
    | nil => intro m h; exact h
    | cons x l ih => intro m h; exact ih _ (aput_nodup _ _ _ h)
  exact this l [] (by simp)
theorem fundsOf_rise (l : List Ln) : RiseI (fundsOf l) := by
  have hs : (fundsOf l).Pairwise (fun a b => decide (a.1 ≤ b.1) = true) := List.pairwise_mergeSort (fun a b c h1 h2 => by simp at h1 h2 ⊢; omega) (fun a b => by simp; omega) _
  have hnd : ((fundsOf l).map (·.1)).Nodup := ((List.mergeSort_perm _ _).map _).nodup_iff.2 (sumsOf_nodup l)
  have h2 := List.pairwise_map.1 hnd
  exact (hs.and h2).imp (fun {a b} h => by have := h.1; have h3 := h.2; simp at this h3; omega)
theorem fundsOf_perm (l : List Ln) : (fundsOf l).Perm (sumsOf l) := List.mergeSort_perm _ _
/-- whatever lists the sums, each once, is, sorted, the funds -/
theorem funds_of {l L : List Ln} {ps : List (Int × Int)} (hp : L.Perm (ps.map lnF)) (hps : ps.Perm (sumsOf l)) (hs : L.Pairwise (fun a b => ¬ b.1 < a.1)) : L = fundsL l := by
  obtain ⟨qs, rfl⟩ : ∃ qs : List (Int × Int), L = qs.map lnF := by
    refine ⟨L.map fun x => (x.1, x.2.2.2), ?_⟩
    rw [List.map_map]
    conv => lhs; rw [← List.map_id L]
    apply List.map_congr_left
    intro x hx
    obtain ⟨p, _, rfl⟩ := List.mem_map.1 (hp.mem_iff.1 hx)
    rfl
  have hq : qs.Perm ps := by
    have := hp.map (fun x : Ln => (x.1, x.2.2.2))
    have e : ∀ r : List (Int × Int), (r.map lnF).map (fun x : Ln => (x.1, x.2.2.2)) = r := fun r => by
      rw [List.map_map]; conv => rhs; rw [← List.map_id r]
      rfl
    rwa [e, e] at this
  have hqs := hq.trans hps
  have hnd : (qs.map (·.1)).Nodup := (hqs.map _).nodup_iff.2 (sumsOf_nodup l)
  have h2 := List.pairwise_map.1 hnd
  have h3 := List.pairwise_map.1 hs
  have hr : RiseI qs := (h3.and h2).imp (fun {a b} h => by have h4 := h.1; have h5 := h.2; simp [lnF] at h4 h5; omega)
  unfold fundsL
  rw [RiseI.perm_eq (hqs.trans (fundsOf_perm l).symm) hr (fundsOf_rise l)]

theorem alook_sumV (m : List (Int × Int)) (k : Int) : (alook (sumV m) k).getD (.int .i64 0) = .int .i64 ((alook m k).getD 0) := by
  induction m with
  | nil => rfl
  | cons p m ih =>
    by_cases e : p.1 = k
    · simp [alook, sumV, e]
    · simpa [alook, sumV, List.find?_cons, e] using ih
theorem alook_sumV_some (m : List (Int × Int)) (k : Int) : (alook (sumV m) k).isSome = (alook m k).isSome := by
  induction m with
  | nil => rfl
  | cons p m ih =>
    by_cases e : p.1 = k
    · simp [alook, sumV, e]
    · simpa [alook, sumV, List.find?_cons, e] using ih
theorem aput_sumV (m : List (Int × Int)) (k n : Int) : aput (sumV m) k (.int .i64 n) = sumV (aput m k n) := by
  unfold aput
  rw [alook_sumV_some]
  split
  · simp only [sumV, List.map_map]
    apply List.map_congr_left
    intro p _
    by_cases e : p.1 = k <;> simp [e]
  · simp [sumV]
theorem sumsOf_snoc (l : List Ln) (x : Ln) : sumsOf (l ++ [x]) = fadd (sumsOf l) x.1 x.2.2.2 := by simp [sumsOf]
theorem aput_len (m : List (Int × Int)) (k n : Int) : (aput m k n).length ≤ m.length + 1 := by
  unfold aput; split <;> simp
theorem sumsOf_len (l : List Ln) : (sumsOf l).length ≤ l.length := by
  have : ∀ (l : List Ln) (m : List (Int × Int)), (l.foldl (fun m x => fadd m x.1 x.2.2.2) m).length ≤ m.length + l.length := by
    intro l
    induction l with
    | nil => intro m; simp
    | cons x l ih =>
      intro m
      have := ih (fadd m x.1 x.2.2.2)
      have := aput_len m x.1 (wrap64 ((alook m x.1).getD 0 + x.2.2.2))
      simp only [List.foldl_cons, List.length_cons, fadd] at *
      omega
  have := this l []
  simpa [sumsOf] using this
theorem zero_int (w : World) : (zeroValue 3).run Tryz.prog w = .ok (.int .i64 0) w := by kernel_rfl

theorem lines_Funds {v : Value} {l : List Ln} (hl : Lns w U v l) (hn : l.length ≤ 1048576) :
    Calls Tryz.prog 14 #[v] w fun e w' => ∃ r, e = .returned r ∧ OwnL w.heap.size w' r (fundsL l) ∧ Ext [] w w' := by
  obtain ⟨p, c, rfl, g1, g2⟩ := Sl.shape hl
  have hmm := @run_makeMap Tryz.prog
  have m0 : MapIs intEnc (w.alloc (.map #[] 0)) w.heap.size [] := MapIs.made w
  have x0 := (Ext.refl [] w).alloc (.map #[] 0)
  have hlt0 : w.heap.size < (w.alloc (.map #[] 0)).heap.size := by simp
  go_enter Tryz.func14, Tryz.ntmps14
  go_wp2_with fail
  go_loopw [12] (fun s wr => ∃ i : Nat, i ≤ l.length ∧ s = .int .i64 i ∧ MapIs intEnc wr w.heap.size (sumV (sumsOf (l.take i))) ∧ Ext [] w wr) (fun s _ => l.length - (intOf s).toNat)
  case atStart => exact ⟨0, Nat.zero_le _, rfl, m0, x0⟩
  case round =>
    obtain ⟨i, hi, rfl, hm, hx⟩ := hrel
    by_cases hlt : i < l.length
    · obtain ⟨b, off, c', hpp, _⟩ := Sl.at hl (by omega)
      injection hpp with hpp _ hc'
      subst hpp; subst hc'
      obtain ⟨f1, f2, f3, f4⟩ := (hl.then hx).at hlt
      have HT := Lib.hid (show sumsOf (l.take (i + 1)) = fadd (sumsOf (l.take i)) l[i].1 l[i].2.2.2 by rw [List.take_succ_eq_append_getElem hlt, sumsOf_snoc])
      have ya := (Ext.refl [] wr).alloc (.cells #[.int .i64 l[i].1, .int .i64 l[i].2.1, .int .i64 l[i].2.2.1, .int .i64 l[i].2.2.2] 37)
      have hy := hx.then ya
      have hma := hm.ext ya (by simp)
      have hlook := hma.look1 (P := Tryz.prog) (t := 71) Tryz.underlying71 Tryz.underlying3 (zero_int _) l[i].1
      rw [alook_sumV] at hlook
      change (Instr.lookup _ _ (.int .i64 l[i].1) false).run _ _ = _ at hlook
      obtain ⟨w2, hu, hm2, hx2, hsz2⟩ := hma.put (P := Tryz.prog) (t := 71) Tryz.underlying71 Tryz.underlying3 l[i].1 (.int .i64 (wrap64 ((alook (sumsOf (l.take i)) l[i].1).getD 0 + l[i].2.2.2)))
      change (Instr.mapUpdate _ _ (.int .i64 l[i].1) _).run _ _ = _ at hu
      rw [aput_sumV] at hm2
      go_wp2_with fail
      exact ⟨⟨i + 1, by omega, by go_num, by rw [HT.out]; exact hm2, hy.trans hx2 (fun b hb hlt' => by simp at hb; omega)⟩, by simp [intOf]; omega⟩
    · have e : i = l.length := by omega
      subst e
      rw [List.take_length] at hm
      obtain ⟨hr, hit⟩ := Iter.start (P := Tryz.prog) hm Tryz.underlying71
      have x1 := (Ext.refl [] wr).alloc (.mapIter (some w.heap.size) (hm.choose_spec.choose) #[] (hm.choose_spec.choose))
      have hs1 : wr.heap.size < (wr.alloc (.mapIter (some w.heap.size) (hm.choose_spec.choose) #[] (hm.choose_spec.choose))).heap.size := by simp
      have hml := hm.lt
      generalize (wr.alloc (.mapIter (some w.heap.size) (hm.choose_spec.choose) #[] (hm.choose_spec.choose))) = w1 at hr hit x1 hs1
      obtain ⟨w5, hw5⟩ : ∃ w5, w5 = wr := ⟨_, rfl⟩
      subst hw5
      have hSl : (sumsOf l).length ≤ l.length := sumsOf_len l
      have hsz5 := hx.size
      go_wp2_with fail
      go_loopw [6] (fun o ws => ∃ L left : List (Int × Int), OwnL (w5.heap.size + 1) ws o (L.map lnF) ∧ Iter intEnc ws w5.heap.size w.heap.size (sumV (sumsOf l)) (sumV left) ∧ (L ++ left).Perm (sumsOf l) ∧ Ext [] w5 ws ∧ w5.heap.size < ws.heap.size) (fun _ ws => iterLeft ws w5.heap.size)
      case atStart => exact ⟨[], sumsOf l, own_nil _ _ _ _, hit, List.Perm.refl _, x1, hs1⟩
      case round =>
        obtain ⟨L, left, ho, hi, hp, hx2, hsz⟩ := hrel
        rcases hi.next (P := Tryz.prog) 0 with ⟨h1, h2⟩ | ⟨pre, k, v, post, w2, h1, h2, h3, h4, h5, h6, h7⟩
        · have hl0 : left = [] := by simpa [sumV] using h1
          subst hl0
          have hp' : L.Perm (sumsOf l) := by simpa using hp
          have hlen : L.length = (sumsOf l).length := hp'.length_eq
          have hfr := own_fresh ho
          go_wp2_with fail
          refine (lines_Sort (OwnL.own ho) (by simp; omega)).mono ?_
          rintro e w2 ⟨rfl, l', hs, hpm, hsd, hx3⟩
          have hE := funds_of hpm hp' hsd
          go_wp2_with fail
          go_ret
          refine ⟨_, rfl, ?_, (hx.then hx2).trans hx3 (fun b hb hlt => by have := hfr b (by simpa using hb); omega)⟩
          rw [← hE]
          exact own_rebase hs (fun b hb => by have := own_fresh hs b hb; omega)
        · have h1' := h1
          simp only [sumV, List.map_eq_append_iff, List.map_eq_cons_iff] at h1'
          obtain ⟨pre', q', hleft, hpre, q, post', hq, hqk, hpost⟩ := h1'
          subst hq
          obtain ⟨qk, qn⟩ := q
          simp only [Prod.mk.injEq] at hqk
          obtain ⟨rfl, rfl⟩ := hqk
          change _ = Result.ok (Value.tuple #[Value.bool true, Value.int .i64 qk, _]) w2 at h3
          change _ = Result.ok (Value.tuple #[Value.int .i64 qk, _]) w2 at h4
          have hfr := own_fresh ho
          have ho2 := own_ext ho h6 (fun b hb hm => by have := hfr b hb; simp at hm; omega)
          have hlen : L.length + left.length = (sumsOf l).length := by have := hp.length_eq; simpa using this
          have hLb : L.length ≤ 1048576 := by omega
          have hsz2 : w5.heap.size < w2.heap.size := by omega
          have HL := Lib.hid hleft
          have HP := Lib.hid hpre
          have HQ := Lib.hid hpost
          have H1 := Lib.hid h1
          clear h7 hlen hleft hpre hpost h1 hr
          have hLm : (L.map lnF).length ≤ 1048576 := by simpa using hLb
          iterate 90 (first | at_builtin | go_step | skip)
          with_reducible refine app1 (k := 4) Tryz.underlying23 row_line (by decide) ho2 ?_ ?_ ?_ ?_ ?_ ?_ ?_ ?_
          rfl
          simp [Value.oneCell']
          omega
          omega
          omega
          rfl
          rfl
          intro v1 w3 ho3 hx3 hat
          go_wp2_with fail
          go_roundw
          case rel =>
            have hr : w5.heap.size ∉ u6.ownBlock.toList := fun hm => by have := hfr _ (by simpa using hm); omega
            have hc : w.heap.size ∉ u6.ownBlock.toList := fun hm => by have := hfr _ (by simpa using hm); omega
            have hPP : pre ++ post = sumV (pre' ++ post') := by rw [← HP.out, ← HQ.out]; simp [sumV]
            rw [hPP] at h5
            refine ⟨L ++ [(qk, qn)], pre' ++ post', ?_, h5.ext hx3 hc hr, ?_, ?_, ?_⟩
            · rw [List.map_append]
              exact OwnL.snoc (x := lnF (qk, qn)) ho3
            · refine List.Perm.trans ?_ hp
              rw [HL.out]
              simp
              exact List.Perm.append_left _ List.perm_middle.symm
            · exact (hx2.trans h6 (fun b hb hlt => by simp at hb; omega)).trans hx3 (fun b hb hlt => by have := hfr b (by simpa using hb); omega)
            · have := hx3.size; omega
          case measure =>
            have hr : w5.heap.size ∉ u6.ownBlock.toList := fun hm => by have := hfr _ (by simpa using hm); omega
            have hc : w.heap.size ∉ u6.ownBlock.toList := fun hm => by have := hfr _ (by simpa using hm); omega
            rw [(h5.ext hx3 hc hr).left_eq, hi.left_eq, H1.out]
            simp
end Go.Proofs.YtbbfgbkbdhghbaaGreatDoor
