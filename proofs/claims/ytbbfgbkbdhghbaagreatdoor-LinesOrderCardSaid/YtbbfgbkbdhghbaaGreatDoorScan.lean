/-
  view.base gives the pairs of the memory whose keys begin so.
-/
import Derived.Test.YtbbfgbkbdhghbaaGreatDoorChanges
set_option linter.unusedVariables false
set_option linter.unusedSimpArgs false
namespace Go.Proofs.YtbbfgbkbdhghbaaGreatDoor
open Go.RowKit

set_option maxHeartbeats 1000000 in
theorem view_base {U : TypeId} {w : World} {V : VW} {n : Nat} {was now : Tbl} (h : IsView w V n was now) (hn : n ≤ 1099511627776) (pv : Value) (p : Bytes) (hp : Bs U w pv p) :
    Calls Tryz.prog 84 #[.pointer (some ⟨V.s, 0, none⟩), pv] w fun e w' => ∃ r L, e = .returned r ∧ OwnP w.heap.size w' r L ∧ Ext [] w w' ∧ (L.map (·.1)).Nodup ∧ L.length ≤ n ∧ ∀ k v, (k, v) ∈ L ↔ tget was k = some v ∧ p <+: k := by
  obtain ⟨c0, c1, c2, c3⟩ := h.cell
  have hlt := h.lt
  obtain ⟨ch, me, chx, mex, hc, hm, ec, em, hn2, hwas, _, _⟩ := h.maps
  have hml := em.length
  have hnd := hm.nodup
  have HWas := Lib.hid hwas
  have HE := Lib.hid em
  have HND := Lib.hid hnd
  have HL := Lib.hid (show me.length ≤ n by omega)
  have hF := h.fwas
  have HF := Lib.hid hF
  obtain ⟨hr, hit⟩ := Iter.start (P := Tryz.prog) hm Tryz.underlying48
  have x1 := (Ext.refl [] w).alloc (.mapIter (some V.m) (hm.choose_spec.choose) #[] (hm.choose_spec.choose))
  have hs1 : w.heap.size < (w.alloc (.mapIter (some V.m) (hm.choose_spec.choose) #[] (hm.choose_spec.choose))).heap.size := by simp
  generalize (w.alloc (.mapIter (some V.m) (hm.choose_spec.choose) #[] (hm.choose_spec.choose))) = w1 at hr hit x1 hs1
  clear hwas em hnd hml hn2 hc ec hm hF h
  go_enter Tryz.func84, Tryz.ntmps84
  go_wp2_with fail
  go_loopw [7] (fun v wr => ∃ L left, OwnP (w.heap.size + 1) wr v L ∧ Iter strEnc wr w.heap.size V.m me left ∧ (L.map (·.1) ++ (left.filter (fun q => p.isPrefixOf q.1)).map (·.1)).Perm ((me.filter (fun q => p.isPrefixOf q.1)).map (·.1)) ∧ (∀ q ∈ L, tget was q.1 = some q.2) ∧ Ext [] w wr ∧ w.heap.size < wr.heap.size) (fun _ wr => iterLeft wr w.heap.size)
  case atStart => exact ⟨[], me, OwnP.nil _ _, hit, List.Perm.refl _, by simp, x1, hs1⟩
  case round =>
    obtain ⟨L, left, hP, hi, hperm, hall, hx, hsz⟩ := hrel
    clear hr hit x1 hs1
    have HP := Lib.hid hperm
    have HA := Lib.hid hall
    have hLl : L.length ≤ 1099511627776 := by
      have := hperm.length_eq
      have h2 : (me.filter (fun q => p.isPrefixOf q.1)).length ≤ me.length := List.length_filter_le _ _
      have h3 := HL.out
      simp at this
      omega
    clear hperm hall
    rcases hi.next (P := Tryz.prog) 0 with ⟨h1, h2⟩ | ⟨pre, k, v, post, w2, h1, h2, h3, h4, h5, h6, h7⟩
    · have H1 := Lib.hid h1
      clear h1
      go_wp2_with fail
      go_ret
      have hperm := HP.out
      rw [H1.out] at hperm
      simp only [List.filter_nil, List.map_nil, List.append_nil] at hperm
      have hnd2 : ((me.filter (fun q => p.isPrefixOf q.1)).map (·.1)).Nodup := (List.filter_sublist.map _).nodup HND.out
      refine ⟨_, rfl, L, hP.rebase (Nat.le_succ _), hx, hperm.nodup_iff.2 hnd2, ?_, fun k v => ⟨fun hk => ⟨HA.out _ hk, ?_⟩, fun ⟨hk, hpk⟩ => ?_⟩⟩
      · have := hperm.length_eq
        have h2 : (me.filter (fun q => p.isPrefixOf q.1)).length ≤ me.length := List.length_filter_le _ _
        have h3 := HL.out
        simp at this
        omega
      · have : k ∈ (me.filter (fun q => p.isPrefixOf q.1)).map (·.1) := hperm.mem_iff.1 (List.mem_map.2 ⟨_, hk, rfl⟩)
        obtain ⟨q, hq, rfl⟩ := List.mem_map.1 this
        exact List.isPrefixOf_iff_prefix.1 (List.mem_filter.1 hq).2
      · rw [HWas.out] at hk
        rcases HE.out.look k with ⟨_, e2⟩ | ⟨v', x, e1, e2, _⟩
        · rw [e2] at hk; cases hk
        · have hin := mem_of_alook e1
          have : k ∈ L.map (·.1) := hperm.mem_iff.2 (List.mem_map.2 ⟨_, List.mem_filter.2 ⟨hin, List.isPrefixOf_iff_prefix.2 hpk⟩, rfl⟩)
          obtain ⟨⟨k', v''⟩, hq, e⟩ := List.mem_map.1 this
          simp at e
          subst e
          have hh := HA.out _ hq
          simp only at hh
          rw [HWas.out, hk] at hh
          injection hh with hh
          rw [hh]; exact hq
    · change _ = Result.ok (Value.tuple #[Value.bool true, Value.string (str k), v]) w2 at h3
      change _ = Result.ok (Value.tuple #[Value.string (str k), v]) w2 at h4
      have H1 := Lib.hid h1
      have hk := mem_alook HND.out h2
      have hsz2 : w.heap.size < w2.heap.size := by omega
      rcases HE.out.look k with ⟨e1, _⟩ | ⟨v', x, e1, e2, hb⟩
      · rw [hk] at e1; cases e1
      rw [hk] at e1
      injection e1 with e1
      subst e1
      have hwk : tget was k = some x := by rw [HWas.out, e2]
      have HK := Lib.hid hwk
      have hfit := HF.out _ (tget_mem hwk)
      simp only [Fit2] at hfit
      obtain ⟨vp, vc, rfl, _, _⟩ := hb.shape
      have hib : ∀ b ∈ [w.heap.size], ∀ cs fr, wr.heap[b]? ≠ some (.cells cs 5 fr) := by
        intro b hb cs fr
        simp at hb
        subst hb
        exact hi.ne_cells _ _ _
      have x2 : Ext [] w w2 := hx.trans h6 (by simp)
      have hP2 : OwnP (w.heap.size + 1) w2 u7 L := by
        obtain ⟨hs, q1, q2⟩ := hP
        exact OwnP.ext ⟨hs, q1, q2⟩ h6 (fun b hb hm => by have := own_fresh q1 b hb; simp at hm; omega) hib
      have hcv := run_cvb k
      have xc := cv_ext k w2
      have hbc := cv_bs k w2 (by omega)
      have hpp := (hp.then x2).then xc
      have hmeas : iterLeft wr w.heap.size = pre.length + 1 + post.length := by rw [hi.left_eq, h1]; simp; omega
      have HM := Lib.hid hmeas
      clear h1 h2 h7 hk e2 hwk hmeas
      cases hpk : p.isPrefixOf k with
      | false =>
        have HQ := Lib.hid hpk
        have hH := bytes_HasPrefix _ _ _ _ _ hbc hpp
        rw [hpk] at hH
        clear hpk
        iterate 60 (first | at_builtin | go_step | skip)
        go_at_call 86
        refine hH.mono ?_
        rintro e w' ⟨rfl, rfl⟩
        go_wp2_with fail
        go_roundw
        case rel =>
          refine ⟨L, pre ++ post, hP2.then xc, h5.ext xc (by simp) (by simp), ?_, HA.out, x2.then xc, by have := xc.size; omega⟩
          have := HP.out
          rw [H1.out] at this
          simpa [List.filter_cons, HQ.out] using this
        case measure =>
          rw [(h5.ext xc (by simp) (by simp)).left_eq, HM.out]; simp
      | true =>
        have HQ := Lib.hid hpk
        have hH := bytes_HasPrefix _ _ _ _ _ hbc hpp
        rw [hpk] at hH
        clear hpk
        have xd := cv_ext k (cvW w2 k)
        have hbd := cv_bs k (cvW w2 k) (by omega)
        have hbv := ((hb.then x2).then xc).then xd
        iterate 60 (first | at_builtin | go_step | skip)
        go_at_call 86
        refine hH.mono ?_
        rintro e w' ⟨rfl, rfl⟩
        dsimp only
        iterate 60 (first | at_builtin | go_step | skip)
        go_at_call 50
        refine (bytes_Clone _ _ _ hbv (by omega)).mono ?_
        rintro e w3 ⟨r2, rfl, hn3, x5⟩
        obtain ⟨rp, rc, rfl, _, _⟩ := hn3.bs.sl.shape
        have xx := (xc.then xd).then x5
        obtain ⟨hs, ho, hrel⟩ := hP2.then xx
        have hbk3 := hbd.then x5
        have hsz3 := xx.size
        have hfr := own_fresh ho
        dsimp only
        iterate 60 (first | at_builtin | go_step | skip)
        with_reducible refine app1 (k := 2) Tryz.underlying51 row_pair (by decide) ho ?_ ?_ ?_ ?_ ?_ ?_ ?_ ?_
        rfl
        simp [Value.oneCell']
        omega
        omega
        omega
        rfl
        rfl
        intro v1 w4 ho1 hx1 hat
        go_wp2_with fail
        go_roundw
        case rel =>
          have hr1 : w.heap.size ∉ u7.ownBlock.toList := fun hm => by have := hfr _ (by simpa using hm); omega
          have hr2 : V.m ∉ u7.ownBlock.toList := fun hm => by have := hfr _ (by simpa using hm); omega
          refine ⟨L ++ [(k, x)], pre ++ post, OwnP.push (h := (_, _)) ho hrel ⟨hbk3, hn3.bs⟩ ho1 hx1, (h5.ext xx (by simp) (by simp)).ext hx1 hr2 hr1, ?_, ?_, (x2.then xx).trans hx1 (fun b hb hlt' => by have := hfr b (by simpa using hb); omega), by have := hx1.size; omega⟩
          · have := HP.out
            rw [H1.out] at this
            simp only [List.filter_append, List.filter_cons, HQ.out, if_true, List.map_append, List.map_cons, List.map_nil] at this ⊢
            refine List.Perm.trans ?_ this
            simp
            exact List.Perm.append_left _ List.perm_middle.symm
          · intro q hq
            rcases List.mem_append.1 hq with hq | hq
            · exact HA.out q hq
            · simp at hq; subst hq; exact HK.out
        case measure =>
          have hr1 : w.heap.size ∉ u7.ownBlock.toList := fun hm => by have := hfr _ (by simpa using hm); omega
          have hr2 : V.m ∉ u7.ownBlock.toList := fun hm => by have := hfr _ (by simpa using hm); omega
          rw [((h5.ext xx (by simp) (by simp)).ext hx1 hr2 hr1).left_eq, HM.out]; simp
end Go.Proofs.YtbbfgbkbdhghbaaGreatDoor
