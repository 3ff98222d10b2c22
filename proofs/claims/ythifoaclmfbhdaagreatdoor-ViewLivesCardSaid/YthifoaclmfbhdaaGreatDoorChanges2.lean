/-
  view.Changes gives the pairs to put and the keys to delete.
-/
import Derived.Test.YthifoaclmfbhdaaGreatDoorChanges
set_option linter.unusedVariables false
set_option linter.unusedSimpArgs false
namespace Go.Proofs.YthifoaclmfbhdaaGreatDoor
open Go.RowKit

set_option maxHeartbeats 4000000 in
theorem view_Changes {w : World} {V : VW} {n : Nat} {was now : Tbl} (h : IsView w V n was now) (hn : n ≤ 1099511627776) :
    Calls Tryz.prog 6 #[.pointer (some ⟨V.s, 0, none⟩)] w fun e w' => ∃ r1 r2, e = .returned (.tuple #[r1, r2]) ∧ OwnP w.heap.size w' r1 (chPuts was now) ∧ OwnD w.heap.size w' r2 (chDels was now) ∧ Ext [] w w' := by
  obtain ⟨c0, c1, c2, c3⟩ := h.cell
  obtain ⟨ch, me, chx, mex, hc, hm, ec, em, hn2, hwas, hnow, hkl⟩ := h.maps
  have hcl := ec.length
  have hck : ch.length ≤ 1099511627776 := by omega
  have HN := Lib.hid hnow
  have HK := Lib.hid hkl
  have HW := Lib.hid hwas
  have HC := Lib.hid ec
  have HB := Lib.hid hc
  clear hnow hkl hwas ec hm em hn2 hcl
  go_enter Tryz.func6, Tryz.ntmps6
  go_wp2_with (first | (go_at_call 17; refine (view_ready h).mono ?_; rintro e w' ⟨rfl, rfl⟩) | (go_at_call 20; refine (changes_keys hc hck).mono ?_; rintro e w1 ⟨kr, l, rfl, hks, x1, hp, hl⟩; obtain ⟨kp, kc, rfl, _, _⟩ := (Sl.of_own hks (by decide)).shape))
  have hsl := Sl.of_own hks (by decide)
  have hll : l.length ≤ 1099511627776 := by have : l.length = ch.length := by simpa using hp.length_eq
                                            omega
  clear hc
  go_loopw [4, 5, 20] (fun v1 v2 s wr => ∃ i : Nat, i ≤ l.length ∧ s = .int .i64 i ∧ OwnP w1.heap.size wr v1 ((l.take i).filterMap (chP was now)) ∧ OwnD w1.heap.size wr v2 ((l.take i).filter (chD was now)) ∧ Ext [] w1 wr) (fun _ _ s _ => l.length - (intOf s).toNat)
  case atStart => exact ⟨0, Nat.zero_le _, rfl, OwnP.nil _ _, OwnD.nil _ _, Ext.refl _ _⟩
  case round =>
    obtain ⟨i, hi, rfl, hP, hD, hx⟩ := hrel
    by_cases hlt : i < l.length
    · obtain ⟨k, hk⟩ : ∃ k, k = l[i] := ⟨_, rfl⟩
      obtain ⟨b, off, c', hpp, hrow⟩ := hsl.at (by omega)
      injection hpp with hpp _ hc'
      subst hpp; subst hc'
      have hcell := (hrow.ext hx (by simp)).cell (i := i) (v := .string (str k)) (by simp [hlt, stv, hk])
      have hkl : k ∈ l := by rw [hk]; exact List.getElem_mem hlt
      have hkc : k ∈ ch.map (·.1) := hp.mem_iff.1 hkl
      have hv := h.then (x1.then hx)
      obtain ⟨d0, d1, d2, d3⟩ := hv.cell
      have hlook := (HB.out.ext (x1.then hx) (by simp)).look1 (P := Tryz.prog) (t := 25) Tryz.underlying25 Tryz.underlying9 (zero_shape _) k
      change (Instr.lookup _ _ (.string (str k)) false).run _ _ = _ at hlook
      have hcv := run_cvb k
      have HS := Lib.hid (show l.take (i + 1) = l.take i ++ [k] by rw [List.take_succ_eq_append_getElem hlt, hk])
      have HF := Lib.hid (show (l.take (i + 1)).filterMap (chP was now) = (l.take i).filterMap (chP was now) ++ (chP was now k).toList by rw [HS.out, List.filterMap_append]; cases hcp : chP was now k <;> simp [hcp])
      have HG := Lib.hid (show (l.take (i + 1)).filter (chD was now) = (l.take i).filter (chD was now) ++ (if chD was now k then [k] else []) by rw [HS.out, List.filter_append]; simp [List.filter_cons])
      have hPl : ((l.take i).filterMap (chP was now)).length ≤ 1099511627776 := Nat.le_trans (List.length_filterMap_le _ _) (by simp; omega)
      have hDl : ((l.take i).filter (chD was now)).length ≤ 1099511627776 := Nat.le_trans (List.length_filter_le _ _) (by simp; omega)
      have hsz1 := hx.size
      clear hk
      rcases HC.out.look k with ⟨e1, e2⟩ | ⟨v0, o, e1, e2, hb⟩
      · have := HC.out.map; rw [alook_none_iff] at e1; exact absurd hkc e1
      · have hno : tget now k = o := by rw [HN.out, e2]
        rw [e1] at hlook
        simp only [Option.getD_some] at hlook
        have hmk := mem_of_alook e2
        clear e1 e2
        cases o with
        | none =>
          simp only [ShapeV] at hb
          subst hb
          have xa : Ext [] wr (wr.alloc (.cells #[.slice none 0 0, .bool true] 50)) := (Ext.refl [] wr).alloc _
          have xb := xa.then (cv_ext k _)
          have hkl32 : k.length ≤ 4294967296 := by have := HK.out _ hmk; simp at this; omega
          have hbk := cv_bs k (wr.alloc (.cells #[.slice none 0 0, .bool true] 50)) hkl32
          rw [show (wr.alloc (.cells #[.slice none 0 0, .bool true] 50)).heap.size = wr.heap.size + 1 by simp] at hbk
          have hw := view_was (hv.then xb) _ k hbk
          have s1 : (cvW (wr.alloc (.cells #[.slice none 0 0, .bool true] 50)) k).cell? ⟨wr.heap.size, 1, none⟩ = some (.bool true) := (cv_ext k _).cell (by simp) (by simp only [World.cell?, heap_alloc_new]; rfl)
          have hchP : chP was now k = none := by unfold chP; rw [hno]
          cases hwk : tget was k with
          | none =>
            have hchD : chD was now k = false := by unfold chD; rw [hwk]; simp
            have EP := Lib.hid hchP
            have ED := Lib.hid hchD
            have NO := Lib.hid hno
            rw [hwk] at hw
            simp only [Option.isSome_none, Option.getD_none] at hw
            clear hno hchP hchD hwk
            iterate 100 (first | at_builtin | go_step | skip)
            go_at_call 18
            refine hw.mono ?_
            rintro e w2 ⟨r, rfl, hr, hr0, x4⟩
            have s2 := x4.cell (by simp) s1
            go_wp2_with fail
            go_roundw
            case rel =>
              refine ⟨i + 1, by omega, by go_num, ?_, ?_, hx.then (xb.then x4)⟩
              · rw [HF.out, EP.out]
                simpa using hP.then (xb.then x4)
              · rw [HG.out, ED.out]
                simpa using hD.then (xb.then x4)
            case measure => simp [intOf]; omega
          | some b0 =>
            have hchD : chD was now k = true := by unfold chD; rw [hwk, hno]; rfl
            have EP := Lib.hid hchP
            have ED := Lib.hid hchD
            rw [hwk] at hw
            simp only [Option.isSome_some, Option.getD_some] at hw
            clear hno hchP hchD hwk
            iterate 100 (first | at_builtin | go_step | skip)
            go_at_call 18
            refine hw.mono ?_
            rintro e w2 ⟨r, rfl, hr, hr0, x4⟩
            have s2 := x4.cell (by simp) s1
            have xc := cv_ext k w2
            have s3 := xc.cell (by simp) s2
            have hbk2 := cv_bs k w2 hkl32
            have hDlt : ∀ b, u5.ownBlock = some b → b < wr.heap.size := by obtain ⟨_, q, _⟩ := hD; exact fun b hb => (q.lt b hb).2
            obtain ⟨hs, ho, hrel⟩ := hD.then ((xb.then x4).then xc)
            have hsz2 := ((xb.then x4).then xc).size
            dsimp only
            iterate 100 (first | at_builtin | go_step | skip)
            with_reducible refine app1 (k := 1) Tryz.underlying34 row_bytes (by decide) ho ?_ ?_ ?_ ?_ ?_ ?_ ?_ ?_
            rfl
            simp [Value.oneCell']
            omega
            omega
            omega
            rfl
            rfl
            intro v1 w3 ho1 hx1 hat
            have s4 : w3.cell? ⟨wr.heap.size, 1, none⟩ = some (.bool true) := hx1.cell (fun hm => by have := hDlt _ (by simpa using hm); omega) s3
            go_wp2_with fail
            go_roundw
            case rel =>
              refine ⟨i + 1, by omega, by go_num, ?_, ?_, ?_⟩
              · rw [HF.out, EP.out]
                simpa using (hP.then ((xb.then x4).then xc)).other ho hx1
              · rw [HG.out, ED.out]
                exact OwnD.push ho hrel hbk2 ho1 hx1
              · exact (hx.then ((xb.then x4).then xc)).trans hx1 (fun b hb hlt => by have := own_fresh ho b (by simpa using hb); omega)
            case measure => simp [intOf]; omega
        | some bs =>
          obtain ⟨vb, rfl, hbb⟩ := hb
          obtain ⟨vp, vc, rfl, hvc1, hvc2⟩ := hbb.shape
          have hbs32 : bs.length ≤ 4294967296 := by have := h.fnow _ (tget_mem hno); simp [Fit2] at this; omega
          have xa : Ext [] wr (wr.alloc (.cells #[.slice vp bs.length vc, .bool false] 50)) := (Ext.refl [] wr).alloc _
          have xb := xa.then (cv_ext k _)
          have hkl32 : k.length ≤ 4294967296 := by have := HK.out _ hmk; simp at this; omega
          have hbk := cv_bs k (wr.alloc (.cells #[.slice vp bs.length vc, .bool false] 50)) hkl32
          rw [show (wr.alloc (.cells #[.slice vp bs.length vc, .bool false] 50)).heap.size = wr.heap.size + 1 by simp] at hbk
          have hw := view_was (hv.then xb) _ k hbk
          have s0 : (cvW (wr.alloc (.cells #[.slice vp bs.length vc, .bool false] 50)) k).cell? ⟨wr.heap.size, 0, none⟩ = some (.slice vp bs.length vc) := (cv_ext k _).cell (by simp) (by simp only [World.cell?, heap_alloc_new]; rfl)
          have s1 : (cvW (wr.alloc (.cells #[.slice vp bs.length vc, .bool false] 50)) k).cell? ⟨wr.heap.size, 1, none⟩ = some (.bool false) := (cv_ext k _).cell (by simp) (by simp only [World.cell?, heap_alloc_new]; rfl)
          have hbb2 := hbb.then (x1.then (hx.then xb))
          have hchD : chD was now k = false := by unfold chD; rw [hno]; rfl
          have hPlt : ∀ b, u4.ownBlock = some b → b < wr.heap.size := by obtain ⟨_, q, _⟩ := hP; exact fun b hb => (q.lt b hb).2
          cases hwk : tget was k with
          | none =>
            have hchP : chP was now k = some (k, bs) := by unfold chP; rw [hno, hwk]; simp
            have EP := Lib.hid hchP
            have ED := Lib.hid hchD
            rw [hwk] at hw
            simp only [Option.isSome_none, Option.getD_none, Option.isSome_some, Option.getD_some] at hw
            clear hno hchP hchD hwk
            iterate 100 (first | at_builtin | go_step | skip)
            go_at_call 18
            refine hw.mono ?_
            rintro e w2 ⟨r, rfl, hr, hr0, x4⟩
            have s2 := x4.cell (by simp) s0
            have s3 := x4.cell (by simp) s1
            have hbb3 := hbb2.then x4
            have xc := cv_ext k w2
            have s4 := xc.cell (by simp) s2
            have hbk2 := cv_bs k w2 hkl32
            have hbb4 := hbb3.then xc
            dsimp only
            iterate 130 (first | at_builtin | go_step | skip)
            go_at_call 19
            refine (bytes_Clone _ _ _ hbb4 hbs32).mono ?_
            rintro e w3 ⟨r2, rfl, hn2, x5⟩
            obtain ⟨rp, rc, rfl, _, _⟩ := hn2.bs.sl.shape
            have xx := ((xb.then x4).then xc).then x5
            obtain ⟨hs, ho, hrel⟩ := hP.then xx
            have hbk3 := hbk2.then x5
            have hsz2 := xx.size
            dsimp only
            iterate 100 (first | at_builtin | go_step | skip)
            with_reducible refine app1 (k := 2) Tryz.underlying33 row_pair (by decide) ho ?_ ?_ ?_ ?_ ?_ ?_ ?_ ?_
            rfl
            simp [Value.oneCell']
            omega
            omega
            omega
            rfl
            rfl
            intro v1 w4 ho1 hx1 hat
            go_wp2_with fail
            go_roundw
            case rel =>
              refine ⟨i + 1, by omega, by go_num, ?_, ?_, ?_⟩
              · rw [HF.out, EP.out]
                exact OwnP.push (h := (_, _)) ho hrel ⟨hbk3, hn2.bs⟩ ho1 hx1
              · rw [HG.out, ED.out]
                simpa using (hD.then xx).other ho hx1
              · exact (hx.then xx).trans hx1 (fun b hb hlt => by have := own_fresh ho b (by simpa using hb); omega)
            case measure => simp [intOf]; omega
          | some b0 =>
            by_cases hbe : b0 = bs
            · have hchP : chP was now k = none := by unfold chP; rw [hno, hwk]; simp [hbe]
              have EP := Lib.hid hchP
              have ED := Lib.hid hchD
              rw [hwk] at hw
              simp only [Option.isSome_some, Option.getD_some] at hw
              have hbq : (b0 == bs) = true := by simp [hbe]
              clear hno hchP hchD hwk hbe
              iterate 100 (first | at_builtin | go_step | skip)
              go_at_call 18
              refine hw.mono ?_
              rintro e w2 ⟨r, rfl, hr, hr0, x4⟩
              have s2 := x4.cell (by simp) s0
              have s3 := x4.cell (by simp) s1
              have hbb3 := hbb2.then x4
              dsimp only
              iterate 100 (first | at_builtin | go_step | skip)
              go_at_call 21
              refine (bytes_Equal _ _ _ _ _ (hr.then x4) hbb3).mono ?_
              rintro e w' ⟨rfl, rfl⟩
              rw [hbq]
              go_wp2_with fail
              go_roundw
              case rel =>
                refine ⟨i + 1, by omega, by go_num, ?_, ?_, hx.then (xb.then x4)⟩
                · rw [HF.out, EP.out]
                  simpa using hP.then (xb.then x4)
                · rw [HG.out, ED.out]
                  simpa using hD.then (xb.then x4)
              case measure => simp [intOf]; omega
            · have hchP : chP was now k = some (k, bs) := by unfold chP; rw [hno, hwk]; simp [hbe]
              have EP := Lib.hid hchP
              have ED := Lib.hid hchD
              rw [hwk] at hw
              simp only [Option.isSome_none, Option.getD_none, Option.isSome_some, Option.getD_some] at hw
              have hbq : (b0 == bs) = false := by simp [hbe]
              clear hno hchP hchD hwk hbe
              iterate 100 (first | at_builtin | go_step | skip)
              go_at_call 18
              refine hw.mono ?_
              rintro e w2 ⟨r, rfl, hr, hr0, x4⟩
              have s2 := x4.cell (by simp) s0
              have s3 := x4.cell (by simp) s1
              have hbb3 := hbb2.then x4
              have xc := cv_ext k w2
              have s4 := xc.cell (by simp) s2
              have hbk2 := cv_bs k w2 hkl32
              have hbb4 := hbb3.then xc
              dsimp only
              iterate 100 (first | at_builtin | go_step | skip)
              go_at_call 21
              refine (bytes_Equal _ _ _ _ _ (hr.then x4) hbb3).mono ?_
              rintro e w' ⟨rfl, rfl⟩
              rw [hbq]
              dsimp only
              iterate 100 (first | at_builtin | go_step | skip)
              go_at_call 19
              refine (bytes_Clone _ _ _ hbb4 hbs32).mono ?_
              rintro e w3 ⟨r2, rfl, hn2, x5⟩
              obtain ⟨rp, rc, rfl, _, _⟩ := hn2.bs.sl.shape
              have xx := ((xb.then x4).then xc).then x5
              obtain ⟨hs, ho, hrel⟩ := hP.then xx
              have hbk3 := hbk2.then x5
              have hsz2 := xx.size
              dsimp only
              iterate 100 (first | at_builtin | go_step | skip)
              with_reducible refine app1 (k := 2) Tryz.underlying33 row_pair (by decide) ho ?_ ?_ ?_ ?_ ?_ ?_ ?_ ?_
              rfl
              simp [Value.oneCell']
              omega
              omega
              omega
              rfl
              rfl
              intro v1 w4 ho1 hx1 hat
              go_wp2_with fail
              go_roundw
              case rel =>
                refine ⟨i + 1, by omega, by go_num, ?_, ?_, ?_⟩
                · rw [HF.out, EP.out]
                  exact OwnP.push (h := (_, _)) ho hrel ⟨hbk3, hn2.bs⟩ ho1 hx1
                · rw [HG.out, ED.out]
                  simpa using (hD.then xx).other ho hx1
                · exact (hx.then xx).trans hx1 (fun b hb hlt => by have := own_fresh ho b (by simpa using hb); omega)
              case measure => simp [intOf]; omega
    · have e : i = l.length := by omega
      subst e
      go_wp2_with fail
      go_ret2
      rw [List.take_length] at hP hD
      have hout : ∀ k, k ∉ l → tget now k = tget was k := fun k hk => by
        have hkc : k ∉ ch.map (·.1) := fun hh => hk (hp.mem_iff.2 hh)
        have h1 := alook_none_iff.2 hkc
        rcases HC.out.look k with ⟨_, e2⟩ | ⟨_, _, e1, _⟩
        · rw [HN.out, e2, HW.out]
        · rw [h1] at e1; cases e1
      rw [chP_all h.snow hl hout] at hP
      rw [chD_all h.swas hl hout] at hD
      have hs := x1.size
      exact ⟨_, _, rfl, hP.rebase hs, hD.rebase hs, x1.then hx⟩
end Go.Proofs.YthifoaclmfbhdaaGreatDoor
