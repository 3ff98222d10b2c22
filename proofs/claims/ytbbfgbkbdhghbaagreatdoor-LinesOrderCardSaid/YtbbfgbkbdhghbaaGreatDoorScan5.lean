/-
  view.Scan gives the pairs of the table now whose keys begin so, rising.
-/
import Derived.Test.YtbbfgbkbdhghbaaGreatDoorSortP
set_option linter.unusedVariables false
set_option linter.unusedSimpArgs false
namespace Go.Proofs.YtbbfgbkbdhghbaaGreatDoor
open Go.RowKit

theorem OwnP.fresh {base : Nat} {w : World} {v : Value} {l : Tbl} (h : OwnP base w v l) : ∀ b, v.ownBlock = some b → base ≤ b ∧ b < w.heap.size := by
  obtain ⟨_, q, _⟩ := h
  exact fun b hb => q.lt b hb

/-- what a scan has found, once all was gone through -/
theorem scan_all {was now : Tbl} {p : Bytes} {ch : List (Bytes × Value)} {D B L S : Tbl} (hn : Sorted now) (hnd : (ch.map (·.1)).Nodup)
    (hB : (B.map (·.1)).Nodup) (hBm : ∀ k v, (k, v) ∈ B ↔ tget was k = some v ∧ p <+: k) (hD : D = B.filter fun q => !(alook ch q.1).isSome)
    (hout : ∀ k, k ∉ ch.map (·.1) → tget now k = tget was k)
    (hperm : (L.map (·.1)).Perm (D.map (·.1) ++ (ch.filter (fun q => p.isPrefixOf q.1 && (tget now q.1).isSome)).map (·.1))) (hall : ∀ q ∈ L, tget now q.1 = some q.2)
    (hS : S.Perm L) (hs : S.Pairwise (fun a b => ¬ b.1 < a.1)) : S = tscan now p := by
  have hDk : ∀ k, k ∈ D.map (·.1) ↔ k ∉ ch.map (·.1) ∧ (tget was k).isSome ∧ p <+: k := by
    intro k
    rw [hD]
    simp only [List.mem_map, List.mem_filter]
    constructor
    · rintro ⟨⟨k', v⟩, ⟨h1, h2⟩, rfl⟩
      have := (hBm _ _).1 h1
      refine ⟨?_, by rw [this.1]; rfl, this.2⟩
      have : alook ch k' = none := by simpa using h2
      simpa using alook_none_iff.1 this
    · rintro ⟨h1, h2, h3⟩
      obtain ⟨v, hv⟩ := Option.isSome_iff_exists.1 h2
      have h4 : alook ch k = none := alook_none_iff.2 (by simpa using h1)
      exact ⟨(k, v), ⟨(hBm _ _).2 ⟨hv, h3⟩, by simp [h4]⟩, rfl⟩
  have hLk : ∀ k, k ∈ L.map (·.1) ↔ (tget now k).isSome ∧ p <+: k := by
    intro k
    rw [hperm.mem_iff, List.mem_append, hDk]
    constructor
    · rintro (⟨h1, h2, h3⟩ | h)
      · exact ⟨by rw [hout k h1]; exact h2, h3⟩
      · obtain ⟨q, hq, rfl⟩ := List.mem_map.1 h
        have := (List.mem_filter.1 hq).2
        simp only [Bool.and_eq_true, List.isPrefixOf_iff_prefix] at this
        exact ⟨this.2, this.1⟩
    · rintro ⟨h1, h2⟩
      by_cases hk : k ∈ ch.map (·.1)
      · right
        obtain ⟨q, hq, rfl⟩ := List.mem_map.1 hk
        exact List.mem_map.2 ⟨q, List.mem_filter.2 ⟨hq, by simp only [Bool.and_eq_true, List.isPrefixOf_iff_prefix]; exact ⟨h2, h1⟩⟩, rfl⟩
      · exact .inl ⟨hk, by rw [← hout k hk]; exact h1, h2⟩
  have hLn : (L.map (·.1)).Nodup := by
    rw [hperm.nodup_iff, List.nodup_append]
    refine ⟨?_, (List.filter_sublist.map _).nodup hnd, ?_⟩
    · rw [hD]; exact (List.filter_sublist.map _).nodup hB
    · intro a ha b hb e
      subst e
      refine ((hDk a).1 ha).1 ?_
      obtain ⟨q, hq, rfl⟩ := List.mem_map.1 hb
      exact List.mem_map.2 ⟨q, (List.mem_filter.1 hq).1, rfl⟩
  have hSn : (S.map (·.1)).Nodup := (hS.map _).nodup_iff.2 hLn
  refine tscan_of_perm hn hS (sorted_of_le hs hSn) ?_ fun k v => ?_
  · exact List.Pairwise.imp (S := fun a b => a ≠ b) (fun h e => h (by rw [e])) (List.pairwise_map.1 hLn)
  · rw [List.isPrefixOf_iff_prefix]
    constructor
    · intro h
      exact ⟨hall _ h, ((hLk k).1 (List.mem_map.2 ⟨_, h, rfl⟩)).2⟩
    · rintro ⟨h1, h2⟩
      obtain ⟨⟨k', v'⟩, hq, e⟩ := List.mem_map.1 ((hLk k).2 ⟨by rw [h1]; rfl, h2⟩)
      simp at e
      subst e
      have := hall _ hq
      simp only at this
      rw [h1] at this
      injection this with this
      rw [this]; exact hq

set_option maxHeartbeats 2000000 in
theorem view_Scan {U : TypeId} {w : World} {V : VW} {n : Nat} {was now : Tbl} (h : IsView w V n was now) (hn : n ≤ 137438953472) (pv : Value) (p : Bytes) (hp : Bs U w pv p) :
    Calls Tryz.prog 64 #[.pointer (some ⟨V.s, 0, none⟩), pv] w fun e w' => ∃ r, e = .returned r ∧ OwnP w.heap.size w' r (tscan now p) ∧ Ext [] w w' := by
  obtain ⟨c0, c1, c2, c3⟩ := h.cell
  have hlt := h.lt
  have h' := h
  obtain ⟨ch, me, chx, mex, hc, hm, ec, em, hn2, hwas, hnow, hkl⟩ := h'.maps
  have hcl := ec.length
  have HN := Lib.hid hnow
  have HK := Lib.hid hkl
  have HWas := Lib.hid hwas
  have HL := Lib.hid (show ch.length ≤ n by omega)
  have HND := Lib.hid hc.nodup
  have HC := Lib.hid hc
  have HE := Lib.hid ec
  clear hwas hnow hkl hcl hn2 hm em h'
  have x0 := (Ext.refl [] w).alloc (.cells #[.pointer (some ⟨V.s, 0, none⟩)] 26)
  have hsz0 : (w.alloc (.cells #[.pointer (some ⟨V.s, 0, none⟩)] 26)).heap.size = w.heap.size + 1 := by simp
  have hbx : (w.alloc (.cells #[.pointer (some ⟨V.s, 0, none⟩)] 26)).cell? ⟨w.heap.size, 0, none⟩ = some (.pointer (some ⟨V.s, 0, none⟩)) := by simp only [World.cell?, heap_alloc_new]; rfl
  have hR := view_ready (h.then x0)
  have hBase := view_base (h.then x0) (by omega) pv p (hp.then x0)
  go_enter Tryz.func64, Tryz.ntmps64
  iterate 20 (first | at_builtin | go_step | skip)
  go_at_call 49
  refine hR.mono ?_
  rintro e w' ⟨rfl, rfl⟩
  dsimp only
  iterate 60 (first | at_builtin | go_step | skip)
  go_at_call 84
  refine hBase.mono ?_
  rintro e w1 ⟨r1, B, rfl, hB, x1, hBn, hBl, hBm⟩
  obtain ⟨hsB, hoB, _⟩ := hB.rd
  have x01 := x0.then x1
  have hD := pairs_DeleteFunc (x1.cell (by simp) hbx) (x01.cell (by simp) c0) (hc.ext x01 (by simp)) (ec.imp fun _ _ q => q.ext x01 (by simp)) hB (by omega) (by omega) (by omega)
  have hBf := hB.fresh
  dsimp only
  iterate 60 (first | at_builtin | go_step | skip)
  go_at_call 83
  refine hD.mono ?_
  rintro e w2 ⟨r2, rfl, hD2, x2⟩
  clear hD hR hBase
  have xw2 : Ext [] w w2 := x01.trans x2 (fun b hb hlt' => by have := (hBf b (by simpa using hb)).1; omega)
  have hbx2 := x2.cell (fun hm => by have := (hBf _ (by simpa using hm)).1; omega) (x1.cell (by simp) hbx)
  have hv2 := h.then xw2
  obtain ⟨d0, d1, d2, d3⟩ := hv2.cell
  have hc2 := hc.ext xw2 (by simp)
  obtain ⟨D, hDe⟩ : ∃ D, D = B.filter (fun q => !(alook ch q.1).isSome) := ⟨_, rfl⟩
  rw [← hDe] at hD2
  have hDl : D.length ≤ n := by rw [hDe]; exact Nat.le_trans (List.length_filter_le _ _) hBl
  have hDm : ∀ q ∈ D, tget now q.1 = some q.2 := by
    intro q hq
    rw [hDe] at hq
    obtain ⟨h1, h2⟩ := List.mem_filter.1 hq
    have h3 := (hBm _ _).1 (show (q.1, q.2) ∈ B from h1)
    have h4 : alook ch q.1 = none := by simpa using h2
    rcases HE.out.look q.1 with ⟨_, e2⟩ | ⟨_, _, e1, _⟩
    · rw [HN.out, e2, ← HWas.out]; exact h3.1
    · rw [h4] at e1; cases e1
  have HDE := Lib.hid hDe
  have HDM := Lib.hid hDm
  have HDL := Lib.hid hDl
  have HBM := Lib.hid hBm
  have HBN := Lib.hid hBn
  obtain ⟨hr, hit⟩ := Iter.start (P := Tryz.prog) hc2 Tryz.underlying47
  have x3 := (Ext.refl [] w2).alloc (.mapIter (some V.c) (hc2.choose_spec.choose) #[] (hc2.choose_spec.choose))
  have hs3 : w2.heap.size < (w2.alloc (.mapIter (some V.c) (hc2.choose_spec.choose) #[] (hc2.choose_spec.choose))).heap.size := by simp
  generalize (w2.alloc (.mapIter (some V.c) (hc2.choose_spec.choose) #[] (hc2.choose_spec.choose))) = w3 at hr hit x3 hs3
  have hs2 := xw2.size
  clear hBl hBm hBn hDe hDl hDm c0 c1 c2 c3 hbx hB hBf hsz0 x1 x01 x2 hoB hc ec
  dsimp only
  iterate 60 (first | at_builtin | go_step | skip)
  go_loopw [5] (fun v wr => ∃ L left, OwnP (w.heap.size + 1) wr v L ∧ (∀ b, v.ownBlock = some b → b ≠ w2.heap.size) ∧ Iter strEnc wr w2.heap.size V.c ch left ∧
    (L.map (·.1) ++ (left.filter (fun q => p.isPrefixOf q.1 && (tget now q.1).isSome)).map (·.1)).Perm (D.map (·.1) ++ (ch.filter (fun q => p.isPrefixOf q.1 && (tget now q.1).isSome)).map (·.1)) ∧
    (∀ q ∈ L, tget now q.1 = some q.2) ∧ Ext [] w wr ∧ w2.heap.size < wr.heap.size) (fun _ wr => iterLeft wr w2.heap.size)
  case atStart =>
    refine ⟨D, ch, (hD2.then x3).rebase (by simp), fun b hb => ?_, hit, List.Perm.refl _, HDM.out, xw2.then x3, hs3⟩
    have := (hD2.fresh b hb).2
    omega
  case round =>
    obtain ⟨L, left, hP, hPi, hi, hperm, hall, hx, hsz⟩ := hrel
    clear hr hit hs3 x3 hD2 hv2 hc2 d0 d1 d2 d3
    have HP := Lib.hid hperm
    have HA := Lib.hid hall
    have hPf := hP.fresh
    have hLl : L.length ≤ 274877906944 := by
      have := hperm.length_eq
      have h2 : (ch.filter (fun q => p.isPrefixOf q.1 && (tget now q.1).isSome)).length ≤ ch.length := List.length_filter_le _ _
      have h3 := HL.out
      have h4 := HDL.out
      simp at this
      omega
    clear hperm hall
    rcases hi.next (P := Tryz.prog) 0 with ⟨h1, h2⟩ | ⟨pre, k, v, post, w4, h1, h2, h3, h4, h5, h6, h7⟩
    · have H1 := Lib.hid h1
      clear h1
      have hSort := pairs_Sort hP (by omega)
      iterate 60 (first | at_builtin | go_step | skip)
      go_at_call 87
      refine hSort.mono ?_
      rintro e w5 ⟨rfl, S, hS, hSp, hSs, x5⟩
      go_wp2_with fail
      go_ret
      have hperm := HP.out
      rw [H1.out] at hperm
      simp only [List.filter_nil, List.map_nil, List.append_nil] at hperm
      have hout : ∀ k, k ∉ ch.map (·.1) → tget now k = tget was k := fun k hk => by
        have h1 := alook_none_iff.2 hk
        rcases HE.out.look k with ⟨_, e2⟩ | ⟨_, _, e1, _⟩
        · rw [HN.out, e2, HWas.out]
        · rw [h1] at e1; cases e1
      have hfin := scan_all h.snow HND.out HBN.out HBM.out HDE.out hout hperm HA.out hSp hSs
      rw [hfin] at hS
      exact ⟨_, rfl, hS.rebase (Nat.le_succ _), hx.trans x5 (fun b hb hlt' => by have := (hPf b (by simpa using hb)).1; omega)⟩
    · change _ = Result.ok (Value.tuple #[Value.bool true, Value.string (str k), v]) w4 at h3
      change _ = Result.ok (Value.tuple #[Value.string (str k), v]) w4 at h4
      have H1 := Lib.hid h1
      have hk := mem_alook HND.out h2
      have hsz4 : w2.heap.size < w4.heap.size := by omega
      have hib : ∀ b ∈ [w2.heap.size], ∀ cs fr, wr.heap[b]? ≠ some (.cells cs 5 fr) := by
        intro b hb cs fr
        simp at hb
        subst hb
        exact hi.ne_cells _ _ _
      have x4 : Ext [] w w4 := hx.trans h6 (fun b hb hlt' => by simp at hb; omega)
      have hP4 : OwnP (w.heap.size + 1) w4 u5 L := hP.ext h6 (fun b hb hm => hPi b hb (by simpa using hm)) hib
      have hcv := run_cvb k
      have hmeas : iterLeft wr w2.heap.size = pre.length + 1 + post.length := by rw [hi.left_eq, h1]; simp; omega
      have HM := Lib.hid hmeas
      have hPf4 := hP4.fresh
      rcases HE.out.look k with ⟨e1, _⟩ | ⟨v', o, e1, e2, hb⟩
      · rw [hk] at e1; cases e1
      rw [hk] at e1
      injection e1 with e1
      subst e1
      have hno : tget now k = o := by rw [HN.out, e2]
      have HO := Lib.hid hno
      have hkl : k.length ≤ 32 := by have := HK.out _ (mem_of_alook e2); simpa using this
      clear h1 h2 h7 hk e2 hno hmeas
      cases o with
      | none =>
        simp only [ShapeV] at hb
        subst hb
        have xa := (Ext.refl [] w4).alloc (.cells #[.slice none 0 0, .bool true] 82)
        iterate 120 (first | at_builtin | go_step | skip)
        go_roundw
        case rel =>
          refine ⟨L, pre ++ post, hP4.then xa, fun b hb => hPi b hb, h5.ext xa (by simp) (by simp), ?_, HA.out, x4.then xa, by have := xa.size; omega⟩
          have := HP.out
          rw [H1.out] at this
          simpa [List.filter_cons, HO.out] using this
        case measure => rw [(h5.ext xa (by simp) (by simp)).left_eq, HM.out]; simp
      | some bs =>
        obtain ⟨vb, rfl, hbb⟩ := hb
        obtain ⟨vp, vc, rfl, hvc1, hvc2⟩ := hbb.shape
        have hbs32 : bs.length ≤ 4294967296 := by have := h.fnow _ (tget_mem HO.out); simp [Fit2] at this; omega
        have xa : Ext [] w4 (w4.alloc (.cells #[.slice vp bs.length vc, .bool false] 82)) := (Ext.refl [] w4).alloc _
        have xc := xa.then (cv_ext k _)
        have hbc := cv_bs k (w4.alloc (.cells #[.slice vp bs.length vc, .bool false] 82)) (by omega)
        rw [show (w4.alloc (.cells #[.slice vp bs.length vc, .bool false] 82)).heap.size = w4.heap.size + 1 by simp] at hbc
        have hpp := hp.then (x4.then xc)
        have s0 : (cvW (w4.alloc (.cells #[.slice vp bs.length vc, .bool false] 82)) k).cell? ⟨w4.heap.size, 0, none⟩ = some (.slice vp bs.length vc) := (cv_ext k _).cell (by simp) (by simp only [World.cell?, heap_alloc_new]; rfl)
        have hH := bytes_HasPrefix _ _ _ _ _ hbc hpp
        cases hpk : p.isPrefixOf k with
        | false =>
          have HQ := Lib.hid hpk
          rw [hpk] at hH
          clear hpk
          iterate 120 (first | at_builtin | go_step | skip)
          go_at_call 86
          refine hH.mono ?_
          rintro e w' ⟨rfl, rfl⟩
          dsimp only
          iterate 120 (first | at_builtin | go_step | skip)
          go_roundw
          case rel =>
            refine ⟨L, pre ++ post, hP4.then xc, fun b hb => hPi b hb, h5.ext xc (by simp) (by simp), ?_, HA.out, x4.then xc, by have := xc.size; omega⟩
            have := HP.out
            rw [H1.out] at this
            simpa [List.filter_cons, HQ.out] using this
          case measure => rw [(h5.ext xc (by simp) (by simp)).left_eq, HM.out]; simp
        | true =>
          have HQ := Lib.hid hpk
          rw [hpk] at hH
          clear hpk
          have xd := cv_ext k (cvW (w4.alloc (.cells #[.slice vp bs.length vc, .bool false] 82)) k)
          have hbd := cv_bs k (cvW (w4.alloc (.cells #[.slice vp bs.length vc, .bool false] 82)) k) (by omega)
          have s1 := xd.cell (by simp) s0
          have hbv := hbb.then (x4.then (xc.then xd))
          iterate 120 (first | at_builtin | go_step | skip)
          go_at_call 86
          refine hH.mono ?_
          rintro e w' ⟨rfl, rfl⟩
          dsimp only
          iterate 120 (first | at_builtin | go_step | skip)
          go_at_call 50
          refine (bytes_Clone _ _ _ hbv hbs32).mono ?_
          rintro e w5 ⟨r2, rfl, hn3, x5⟩
          obtain ⟨rp, rc, rfl, _, _⟩ := hn3.bs.sl.shape
          have xx := (xc.then xd).then x5
          obtain ⟨hs, ho, hrel⟩ := hP4.then xx
          have hbk3 := hbd.then x5
          have hsz3 := xx.size
          dsimp only
          iterate 120 (first | at_builtin | go_step | skip)
          with_reducible refine app1 (k := 2) Tryz.underlying51 row_pair (by decide) ho ?_ ?_ ?_ ?_ ?_ ?_ ?_ ?_
          rfl
          simp [Value.oneCell']
          omega
          omega
          omega
          rfl
          rfl
          intro v1 w6 ho1 hx1 hat
          go_wp2_with fail
          go_roundw
          case rel =>
            have hr1 : w2.heap.size ∉ u5.ownBlock.toList := fun hm => hPi _ (by simpa using hm) rfl
            have hr2 : V.c ∉ u5.ownBlock.toList := fun hm => by have := (hPf4 _ (by simpa using hm)).1; omega
            refine ⟨L ++ [(k, bs)], pre ++ post, OwnP.push (h := (_, _)) ho hrel ⟨hbk3, hn3.bs⟩ ho1 hx1, fun b hb => ?_, (h5.ext xx (by simp) (by simp)).ext hx1 hr2 hr1, ?_, ?_, (x4.then xx).trans hx1 (fun b hb hlt' => by have := (hPf4 b (by simpa using hb)).1; omega), by have := hx1.size; omega⟩
            · rcases hat with hat | ⟨b', hat, hb'⟩
              · exact hPi b (by rw [← hat]; exact hb)
              · rw [hat] at hb; injection hb with hb; omega
            · have := HP.out
              rw [H1.out] at this
              simp only [List.filter_append, List.filter_cons, HQ.out, HO.out, Option.isSome_some, Bool.and_self, if_true, List.map_append, List.map_cons, List.map_nil] at this ⊢
              refine List.Perm.trans ?_ this
              simp
              exact List.Perm.append_left _ List.perm_middle.symm
            · intro q hq
              rcases List.mem_append.1 hq with hq | hq
              · exact HA.out q hq
              · simp at hq; subst hq; exact HO.out
          case measure =>
            have hr1 : w2.heap.size ∉ u5.ownBlock.toList := fun hm => hPi _ (by simpa using hm) rfl
            have hr2 : V.c ∉ u5.ownBlock.toList := fun hm => by have := (hPf4 _ (by simpa using hm)).1; omega
            rw [((h5.ext xx (by simp) (by simp)).ext hx1 hr2 hr1).left_eq, HM.out]; simp
end Go.Proofs.YtbbfgbkbdhghbaaGreatDoor
