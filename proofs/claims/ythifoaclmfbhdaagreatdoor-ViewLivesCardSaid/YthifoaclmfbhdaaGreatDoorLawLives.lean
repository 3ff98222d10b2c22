/-
  exchequerlaw14.play and ViewLives answer true.
-/
import Derived.Test.YthifoaclmfbhdaaGreatDoorRef14c
import Derived.Test.YthifoaclmfbhdaaGreatDoorScan5
import Derived.Test.YthifoaclmfbhdaaGreatDoorEqP
import Derived.Test.YthifoaclmfbhdaaGreatDoorOpen
import Derived.Test.YthifoaclmfbhdaaGreatDoorLawView
set_option linter.unusedVariables false
set_option linter.unusedSimpArgs false
namespace Go.Proofs.YthifoaclmfbhdaaGreatDoor
open Go.RowKit
variable {B : Nat}

theorem IsView.viewM {w : World} {V : VW} {n : Nat} {was now : Tbl} (h : IsView w V n was now) : ∀ b ∈ V.M, ∀ cs T fr, w.heap[b]? = some (.cells cs T fr) → T ≠ 66 ∧ T ≠ 68 ∧ T ≠ 5 ∧ T ≠ 56 := by
  intro b hb cs T fr hh
  refine ⟨?_, ?_, ?_, ?_⟩
  all_goals
    rintro rfl
    exact h.nobytes (by decide) b hb cs fr hh
theorem IsRef.vext {w w' : World} {s n n' : Nat} {V : VW} {was now was' now' : Tbl} (h : IsRef B w s n was now) (hv : IsView w V n' was' now') (e : Ext V.M w w') : IsRef B w' s n was now := h.ext e hv.viewM

theorem plain_Same {w : World} {V : VW} {s n : Nat} {was now : Tbl} (h : IsView w V n was now) (hr : IsRef B w s n was now) (hn : n ≤ 137438953472) :
    Calls Tryz.prog 41 #[.pointer (some ⟨V.s, 0, none⟩), .pointer (some ⟨s, 0, none⟩)] w fun e w' => e = .returned (.bool true) ∧ Ext [] w w' := by
  go_enter Tryz.func41, Tryz.ntmps41
  iterate 60 (first | at_builtin | go_step | skip)
  go_at_call 10
  refine (view_Scan h hn _ [] (Sl.nil w 5)).mono ?_
  rintro e w1 ⟨r1, rfl, o1, x1⟩
  dsimp only
  iterate 60 (first | at_builtin | go_step | skip)
  go_at_call 36
  refine (ref_Scan (hr.then x1) (by omega) _ [] (Sl.nil w1 5)).mono ?_
  rintro e w2 ⟨r2, rfl, o2, x2⟩
  obtain ⟨_, _, d1⟩ := (o1.then x2).rd
  obtain ⟨_, _, d2⟩ := o2.rd
  dsimp only
  iterate 60 (first | at_builtin | go_step | skip)
  go_at_call 35
  refine (plain_Pairs d1 d2).mono ?_
  rintro e w3 ⟨rfl, x3⟩
  go_wp2_with fail
  go_ret
  exact ⟨rfl, (x1.then x2).then x3⟩

theorem RExt.at {w w' : World} {k : Nat} {cs : Array Value} {T : TypeId} {fr : Nat × Nat} (x : RExt B w w') (h : w.heap[k]? = some (.cells cs T fr)) (h1 : T ≠ 66) (h2 : T ≠ 68) : w'.heap[k]? = some (.cells cs T fr) := by
  obtain ⟨M, hM, e⟩ := x
  refine (e.block k (Array.getElem?_eq_some_iff.1 h).1 (fun hm => ?_)).trans h
  obtain ⟨_, cs', fr', hh | hh⟩ := hM k hm
  · rw [h] at hh; injection hh with hh; injection hh with _ hh _; exact h1 hh
  · rw [h] at hh; injection hh with hh; injection hh with _ hh _; exact h2 hh
theorem Ext.at {M : List Nat} {w w' : World} {k : Nat} {o : Obj} (x : Ext M w w') (h : w.heap[k]? = some o) (hk : k ∉ M) : w'.heap[k]? = some o := (x.block k (Array.getElem?_eq_some_iff.1 h).1 hk).trans h
theorem cell_of {w : World} {k off : Nat} {cs : Array Value} {T : TypeId} {fr : Nat × Nat} {v : Value} (h : w.heap[k]? = some (.cells cs T fr)) (hv : cs[off]? = some v) : w.cell? ⟨k, off, none⟩ = some v := by
  simp only [World.cell?, h]; exact hv
/-! the calls, whatever comes -/
instance (k v : Bytes) : Decidable (Fit2 k v) := by unfold Fit2; infer_instance
def putE (k v : Bytes) : Int := if Fit2 k v then 0 else 1
def putT (now : Tbl) (k v : Bytes) : Tbl := if Fit2 k v then tput now k v else now
theorem old_view {w0 w w' : World} {V : VW} (h0 : Ext [] w0 w) (hV : ∀ b ∈ V.M, w0.heap.size ≤ b) (x : Ext V.M w w') : Ext [] w0 w' := h0.trans x (fun b hb hlt => absurd hlt (Nat.not_lt.2 (hV b hb)))
theorem Ext.of_old {w w' : World} {V : VW} (x : Ext [] w w') : Ext V.M w w' := x.mono (by simp)
section
variable {U U1 U2 : TypeId} {w : World} {V : VW} {s n : Nat} {was now : Tbl}
theorem view_PutA (h : IsView w V n was now) (kv vv : Value) (k v : Bytes) (hk : StayV V U1 w kv k) (hv : Bs U2 w vv v) :
    Calls Tryz.prog 8 #[.pointer (some ⟨V.s, 0, none⟩), kv, vv] w fun e w' => e = .returned (.int .i64 (putE k v)) ∧ IsView w' V (n + 1) was (putT now k v) ∧ Ext V.M w w' := by
  by_cases hf : Fit2 k v
  · refine (view_Put h kv vv k v hk hv hf).mono ?_
    rintro e w' ⟨rfl, h1, x⟩
    exact ⟨by rw [putE, if_pos hf], by rw [putT, if_pos hf]; exact h1, x⟩
  · refine (view_Put_no h kv vv k v hk.now hv hf).mono ?_
    rintro e w' ⟨rfl, rfl⟩
    exact ⟨by rw [putE, if_neg hf], by rw [putT, if_neg hf]; exact h.mono (by omega), Ext.refl _ _⟩
theorem ref_PutA (h : IsRef B w s n was now) (hn : n ≤ 1099511627776) (kv vv : Value) (k v : Bytes) (hk : Stay B U1 w kv k) (hv : Stay B U2 w vv v) :
    Calls Tryz.prog 32 #[.pointer (some ⟨s, 0, none⟩), kv, vv] w fun e w' => e = .returned (.int .i64 (putE k v)) ∧ IsRef B w' s (n + 1) was (putT now k v) ∧ RExt B w w' := by
  by_cases hf : Fit2 k v
  · refine (ref_Put h hn kv vv k v hk hv hf).mono ?_
    rintro e w' ⟨rfl, h1, x⟩
    exact ⟨by rw [putE, if_pos hf], by rw [putT, if_pos hf]; exact h1, x⟩
  · refine (ref_Put_no _ kv vv k v hk.now hv.now hf).mono ?_
    rintro e w' ⟨rfl, rfl⟩
    exact ⟨by rw [putE, if_neg hf], by rw [putT, if_neg hf]; exact h.mono (by omega), RExt.of (Ext.refl _ _)⟩
theorem tdel_none {T : Tbl} {k : Bytes} (h : tget T k = none) : tdel T k = T := by
  unfold tdel
  rw [List.filter_eq_self]
  intro p hp
  simpa using tget_none_iff.1 h p hp
theorem view_DeleteA (h : IsView w V n was now) (kv : Value) (k : Bytes) (hk : Bs U w kv k) :
    Calls Tryz.prog 9 #[.pointer (some ⟨V.s, 0, none⟩), kv] w fun e w' => e = .returned (.bool (tget now k).isSome) ∧ IsView w' V (n + 1) was (tdel now k) ∧ Ext V.M w w' := by
  cases hg : tget now k with
  | some v =>
    refine (view_Delete h kv k v hk hg).mono ?_
    rintro e w' ⟨rfl, h1, x⟩
    exact ⟨rfl, h1, x⟩
  | none =>
    refine (view_Delete_no h kv k hk hg).mono ?_
    rintro e w' ⟨rfl, x⟩
    exact ⟨rfl, by rw [tdel_none hg]; exact (h.then x).mono (by omega), x.of_old⟩
theorem ref_DeleteA (h : IsRef B w s n was now) (hn : n ≤ 1099511627776) (kv : Value) (k : Bytes) (hk : Stay B U w kv k) :
    Calls Tryz.prog 33 #[.pointer (some ⟨s, 0, none⟩), kv] w fun e w' => e = .returned (.bool (tget now k).isSome) ∧ IsRef B w' s (n + 1) was (tdel now k) ∧ RExt B w w' := by
  cases hg : tget now k with
  | some v =>
    refine (ref_Delete h hn kv k v hk hg).mono ?_
    rintro e w' ⟨rfl, h1, x⟩
    exact ⟨rfl, h1, x⟩
  | none =>
    refine (ref_Delete_no h kv k hk.now hg).mono ?_
    rintro e w' ⟨rfl, x⟩
    exact ⟨rfl, by rw [tdel_none hg]; exact (h.then x).mono (by omega), RExt.of x⟩
end

/-- a call that is played: its cells -/
def DoH (w : World) (cs : List Value) : Prop := ∃ op kv vv k v U1 U2, cs = [.int .i64 op, kv, vv] ∧ I64 op ∧ Bs U1 w kv k ∧ Bs U2 w vv v

theorem elem_cell {w : World} {U : TypeId} {b off n c m : Nat} {css : List (List Value)} {k : Nat} (hk : 0 < k) (hl : Sl w U (.slice (some ⟨b, off, none⟩) m c) n css.flatten) (hc : ∀ cs ∈ css, cs.length = k) {i j : Nat} (hi : i < css.length) (hj : j < k) {v : Value} (h : css[i][j]? = some v) (hn : 0 < n) :
    w.cell? ⟨b, off + (i * k + j), none⟩ = some v := by
  obtain ⟨b', off', c', e, hrow⟩ := hl.at hn
  injection e with e _ _
  injection e with e
  injection e with e1 e2
  subst e1; subst e2
  refine hrow.cell ?_
  rw [flatten_get hk _ hc]
  have e1 : (i * k + j) / k = i := by rw [Nat.mul_comm, Nat.mul_add_div hk, Nat.div_eq_of_lt hj]; rfl
  have e2 : (i * k + j) % k = j := by rw [Nat.mul_comm, Nat.mul_add_mod, Nat.mod_eq_of_lt hj]
  rw [e1, e2, List.getElem?_eq_getElem hi]
  exact h

set_option maxHeartbeats 4000000 in
set_option maxRecDepth 20000 in
theorem law14_play {w0 w : World} {V : VW} {s n0 : Nat} {was0 now0 : Tbl} (h : IsView w V n0 was0 now0) (hr : IsRef w0.heap.size w s n0 was0 now0) (hn0 : n0 ≤ 1048576) (hV : ∀ b ∈ V.M, w0.heap.size ≤ b) (h0 : Ext [] w0 w)
    {lv : Value} {css : List (List Value)} {U : TypeId} (hl : Sl w0 U lv css.length css.flatten) (hd : ∀ cs ∈ css, DoH w0 cs) :
    Calls Tryz.prog 16 #[.pointer (some ⟨V.s, 0, none⟩), .pointer (some ⟨s, 0, none⟩), lv] w fun e w' => e = .returned (.bool true) ∧ Ext [] w0 w' := by
  obtain ⟨lp, lc, rfl, g1, g2⟩ := hl.shape
  go_enter Tryz.func16, Tryz.ntmps16
  go_wp2_with fail
  go_loopw [20] (fun x wr => ∃ (i n : Nat) (was now : Tbl), x = .int .i64 i ∧ i ≤ css.length ∧ i ≤ 60 ∧ n ≤ n0 + i ∧ IsView wr V n was now ∧ IsRef w0.heap.size wr s n was now ∧ Ext [] w0 wr) (fun x _ => css.length - (intOf x).toNat)
  case atStart => exact ⟨0, n0, was0, now0, rfl, by omega, by omega, by omega, h, hr, h0⟩
  case round =>
    obtain ⟨i, n, was, now, rfl, hi, hi60, hn, hv, hx, h0x⟩ := hrel
    by_cases hlt : i < css.length
    · have hD := hd css[i] (List.getElem_mem hlt)
      obtain ⟨op, kv, vv, k, v, U1, U2, hcs, hop, hk, hvv⟩ := hD
      have hk3 : ∀ cs ∈ css, cs.length = 3 := fun cs hcs => by obtain ⟨_, _, _, _, _, _, _, rfl, _⟩ := hd cs hcs; rfl
      have hl2 := hl.then h0x
      obtain ⟨b, off, c', hpp, _⟩ := hl2.at (by omega)
      injection hpp with hpp _ hcc
      subst hpp; subst hcc
      have f0 := elem_cell (i := i) (j := 0) (by decide) hl2 hk3 hlt (by decide) (v := .int .i64 op) (by rw [hcs]; rfl) (by omega)
      have f1 := elem_cell (i := i) (j := 1) (by decide) hl2 hk3 hlt (by decide) (v := kv) (by rw [hcs]; rfl) (by omega)
      have f2 := elem_cell (i := i) (j := 2) (by decide) hl2 hk3 hlt (by decide) (v := vv) (by rw [hcs]; rfl) (by omega)
      simp only [Nat.add_zero, ← Nat.add_assoc] at f0 f1 f2
      obtain ⟨kp, kc, rfl, _, _⟩ := hk.shape
      obtain ⟨vp, vc, rfl, _, _⟩ := hvv.shape
      have HC := Lib.hid hcs
      clear hcs hl2
      by_cases hb : i < 60 ∧ k.length ≤ 60 ∧ v.length ≤ 200
      · obtain ⟨hb1, hb2, hb3⟩ := hb
        have z0 := h0x.alloc (.cells #[.int .i64 op, .slice kp k.length kc, .slice vp v.length vc] 70)
        have za := ((Ext.refl [] wr).alloc (.cells #[.int .i64 op, .slice kp k.length kc, .slice vp v.length vc] 70))
        have hva := hv.then za
        have hxa := hx.then za
        have ck : ∀ W, Ext [] w0 W → Bs U1 W (.slice kp k.length kc) k := fun W x => hk.then x
        have cv : ∀ W, Ext [] w0 W → Bs U2 W (.slice vp v.length vc) v := fun W x => hvv.then x
        have dh : (wr.alloc (.cells #[.int .i64 op, .slice kp k.length kc, .slice vp v.length vc] 70)).heap[wr.heap.size]? = some (.cells #[.int .i64 op, .slice kp k.length kc, .slice vp v.length vc] 70 (0, 0)) := heap_alloc_new wr _
        by_cases o0 : op = 0
        · subst o0
          go_wp2_with fail
          generalize wr.alloc (.cells #[.int .i64 0, .slice kp k.length kc, .slice vp v.length vc] 70) = wa at *
          generalize wr.heap.size = kb at *
          have kn : kb ∉ V.M := fun hm => hva.nobytes (by decide) kb hm _ _ dh
          have d1 : wa.cell? ⟨kb, 1, none⟩ = some (.slice kp k.length kc) := cell_of dh rfl
          have d2 : wa.cell? ⟨kb, 2, none⟩ = some (.slice vp v.length vc) := cell_of dh rfl
          have xd : Ext [] wa wa.drew := (Ext.refl [] wa).drew
          have hvd := hva.then xd
          have hxd := hxa.then xd
          have zd := z0.then xd
          go_region_held3 (fun W => W.cell? ⟨kb, 1, none⟩ = some (.slice kp k.length kc) ∧ W.cell? ⟨kb, 2, none⟩ = some (.slice vp v.length vc))
            (first | exact ⟨d1, d2⟩ | exact ⟨e1, e2⟩ | exact ⟨e3, e4⟩)
            (first
              | (go_at_call 8; refine (view_PutA hvd _ _ k v (StayV.old hk zd hV) (cv _ zd)).mono ?_; rintro e w2 ⟨rfl, hv2, x2⟩
                 have dh2 := x2.at (xd.at dh (by simp)) kn
                 have e1 : w2.cell? ⟨kb, 1, none⟩ = some (.slice kp k.length kc) := cell_of dh2 rfl
                 have e2 : w2.cell? ⟨kb, 2, none⟩ = some (.slice vp v.length vc) := cell_of dh2 rfl
                 have z2 := old_view zd hV x2
                 have hx2 := hxd.vext hvd x2)
              | (go_at_call 32; refine (ref_PutA hx2 (by omega) _ _ k v (Stay.old hk z2) (Stay.old hvv z2)).mono ?_; rintro e w3 ⟨rfl, hx3, x3⟩
                 have dh3 := x3.at dh2 (by decide) (by decide)
                 have e3 : w3.cell? ⟨kb, 1, none⟩ = some (.slice kp k.length kc) := cell_of dh3 rfl
                 have e4 : w3.cell? ⟨kb, 2, none⟩ = some (.slice vp v.length vc) := cell_of dh3 rfl
                 have hv3 := hv2.rext x3
                 have z3 := x3.old z2))
          all_goals
            have hn1 : n + 1 ≤ n0 + (i + 1) := by omega
            clear hva hxa z0 za dh dh2 dh3 d1 d2 e1 e2 e3 e4 hvd hxd zd hv2 hx2 z2 xd x2 x3
            go_wp2_with fail
            refine (view_Changes hv3 (by omega)).mono ?_
            rintro e wb ⟨r1, r2, rfl, oP1, oD1, xb⟩
            dsimp only
            have hxb := hx3.then xb
            have hvb := hv3.then xb
            have zb := z3.then xb
            clear hv3 hx3
            go_wp2_with fail
            refine (ref_Changes hxb (by omega)).mono ?_
            rintro e wc ⟨r3, r4, rfl, oP2, oD2, xc⟩
            have hxc := hxb.then xc
            have hvc := hvb.then xc
            have zc := zb.then xc
            obtain ⟨_, _, s1⟩ := (oP1.then xc).rd
            obtain ⟨_, _, s2⟩ := oP2.rd
            obtain ⟨_, s3⟩ := (oD1.then xc).rd
            obtain ⟨_, s4⟩ := oD2.rd
            have hP := plain_Pairs s1 s2
            rw [beq_self_eq_true] at hP
            clear hvb hxb zb oP1 oD1 oP2 oD2 s1 s2 xb xc
            dsimp only
            go_wp2_with (first
              | (go_at_call 35; refine hP.mono ?_; rintro e wd ⟨rfl, xd⟩
                 have hB := plain_Bytes (s3.then xd) (s4.then xd)
                 rw [beq_self_eq_true] at hB)
              | (go_at_call 40; refine hB.mono ?_; rintro e we ⟨rfl, xe⟩))
            go_roundw
            case rel => exact ⟨i + 1, _, _, _, by go_num, by omega, by omega, hn1, hvc.then (xd.then xe), hxc.then (xd.then xe), zc.then (xd.then xe)⟩
            case measure => simp [intOf]; omega
        by_cases o1 : op = 1
        · subst o1
          go_wp2_with fail
          generalize wr.alloc (.cells #[.int .i64 1, .slice kp k.length kc, .slice vp v.length vc] 70) = wa at *
          generalize wr.heap.size = kb at *
          have kn : kb ∉ V.M := fun hm => hva.nobytes (by decide) kb hm _ _ dh
          have d1 : wa.cell? ⟨kb, 1, none⟩ = some (.slice kp k.length kc) := cell_of dh rfl
          have d2 : wa.cell? ⟨kb, 2, none⟩ = some (.slice vp v.length vc) := cell_of dh rfl
          have xd : Ext [] wa wa.drew := (Ext.refl [] wa).drew
          have hvd := hva.then xd
          have hxd := hxa.then xd
          have zd := z0.then xd
          go_region_held3 (fun W => W.cell? ⟨kb, 1, none⟩ = some (.slice kp k.length kc) ∧ W.cell? ⟨kb, 2, none⟩ = some (.slice vp v.length vc))
            (first | exact ⟨d1, d2⟩ | exact ⟨e1, e2⟩ | exact ⟨e3, e4⟩)
            (first
              | (go_at_call 8; refine (view_PutA hvd _ _ k v (StayV.old hk zd hV) (cv _ zd)).mono ?_; rintro e w2 ⟨rfl, hv2, x2⟩
                 have dh2 := x2.at (xd.at dh (by simp)) kn
                 have e1 : w2.cell? ⟨kb, 1, none⟩ = some (.slice kp k.length kc) := cell_of dh2 rfl
                 have e2 : w2.cell? ⟨kb, 2, none⟩ = some (.slice vp v.length vc) := cell_of dh2 rfl
                 have z2 := old_view zd hV x2
                 have hx2 := hxd.vext hvd x2)
              | (go_at_call 32; refine (ref_PutA hx2 (by omega) _ _ k v (Stay.old hk z2) (Stay.old hvv z2)).mono ?_; rintro e w3 ⟨rfl, hx3, x3⟩
                 have dh3 := x3.at dh2 (by decide) (by decide)
                 have e3 : w3.cell? ⟨kb, 1, none⟩ = some (.slice kp k.length kc) := cell_of dh3 rfl
                 have e4 : w3.cell? ⟨kb, 2, none⟩ = some (.slice vp v.length vc) := cell_of dh3 rfl
                 have hv3 := hv2.rext x3
                 have z3 := x3.old z2))
          all_goals
            have hn1 : n + 1 ≤ n0 + (i + 1) := by omega
            clear hva hxa z0 za dh dh2 dh3 d1 d2 e1 e2 e3 e4 hvd hxd zd hv2 hx2 z2 xd x2 x3
            go_wp2_with fail
            refine (view_Changes hv3 (by omega)).mono ?_
            rintro e wb ⟨r1, r2, rfl, oP1, oD1, xb⟩
            dsimp only
            have hxb := hx3.then xb
            have hvb := hv3.then xb
            have zb := z3.then xb
            clear hv3 hx3
            go_wp2_with fail
            refine (ref_Changes hxb (by omega)).mono ?_
            rintro e wc ⟨r3, r4, rfl, oP2, oD2, xc⟩
            have hxc := hxb.then xc
            have hvc := hvb.then xc
            have zc := zb.then xc
            obtain ⟨_, _, s1⟩ := (oP1.then xc).rd
            obtain ⟨_, _, s2⟩ := oP2.rd
            obtain ⟨_, s3⟩ := (oD1.then xc).rd
            obtain ⟨_, s4⟩ := oD2.rd
            have hP := plain_Pairs s1 s2
            rw [beq_self_eq_true] at hP
            clear hvb hxb zb oP1 oD1 oP2 oD2 s1 s2 xb xc
            dsimp only
            go_wp2_with (first
              | (go_at_call 35; refine hP.mono ?_; rintro e wd ⟨rfl, xd⟩
                 have hB := plain_Bytes (s3.then xd) (s4.then xd)
                 rw [beq_self_eq_true] at hB)
              | (go_at_call 40; refine hB.mono ?_; rintro e we ⟨rfl, xe⟩))
            go_roundw
            case rel => exact ⟨i + 1, _, _, _, by go_num, by omega, by omega, hn1, hvc.then (xd.then xe), hxc.then (xd.then xe), zc.then (xd.then xe)⟩
            case measure => simp [intOf]; omega
        by_cases o2 : op = 2
        · subst o2
          go_wp2_with fail
          generalize wr.alloc (.cells #[.int .i64 2, .slice kp k.length kc, .slice vp v.length vc] 70) = wa at *
          generalize wr.heap.size = kb at *
          have kn : kb ∉ V.M := fun hm => hva.nobytes (by decide) kb hm _ _ dh
          have d1 : wa.cell? ⟨kb, 1, none⟩ = some (.slice kp k.length kc) := cell_of dh rfl
          have d2 : wa.cell? ⟨kb, 2, none⟩ = some (.slice vp v.length vc) := cell_of dh rfl
          have xd : Ext [] wa wa.drew := (Ext.refl [] wa).drew
          have hvd := hva.then xd
          have hxd := hxa.then xd
          have zd := z0.then xd
          go_region_held3 (fun W => W.cell? ⟨kb, 1, none⟩ = some (.slice kp k.length kc) ∧ W.cell? ⟨kb, 2, none⟩ = some (.slice vp v.length vc))
            (first | exact ⟨d1, d2⟩ | exact ⟨e1, e2⟩ | exact ⟨e3, e4⟩)
            (first
              | (go_at_call 8; refine (view_PutA hvd _ _ k v (StayV.old hk zd hV) (cv _ zd)).mono ?_; rintro e w2 ⟨rfl, hv2, x2⟩
                 have dh2 := x2.at (xd.at dh (by simp)) kn
                 have e1 : w2.cell? ⟨kb, 1, none⟩ = some (.slice kp k.length kc) := cell_of dh2 rfl
                 have e2 : w2.cell? ⟨kb, 2, none⟩ = some (.slice vp v.length vc) := cell_of dh2 rfl
                 have z2 := old_view zd hV x2
                 have hx2 := hxd.vext hvd x2)
              | (go_at_call 32; refine (ref_PutA hx2 (by omega) _ _ k v (Stay.old hk z2) (Stay.old hvv z2)).mono ?_; rintro e w3 ⟨rfl, hx3, x3⟩
                 have dh3 := x3.at dh2 (by decide) (by decide)
                 have e3 : w3.cell? ⟨kb, 1, none⟩ = some (.slice kp k.length kc) := cell_of dh3 rfl
                 have e4 : w3.cell? ⟨kb, 2, none⟩ = some (.slice vp v.length vc) := cell_of dh3 rfl
                 have hv3 := hv2.rext x3
                 have z3 := x3.old z2))
          all_goals
            have hn1 : n + 1 ≤ n0 + (i + 1) := by omega
            clear hva hxa z0 za dh dh2 dh3 d1 d2 e1 e2 e3 e4 hvd hxd zd hv2 hx2 z2 xd x2 x3
            go_wp2_with fail
            refine (view_Changes hv3 (by omega)).mono ?_
            rintro e wb ⟨r1, r2, rfl, oP1, oD1, xb⟩
            dsimp only
            have hxb := hx3.then xb
            have hvb := hv3.then xb
            have zb := z3.then xb
            clear hv3 hx3
            go_wp2_with fail
            refine (ref_Changes hxb (by omega)).mono ?_
            rintro e wc ⟨r3, r4, rfl, oP2, oD2, xc⟩
            have hxc := hxb.then xc
            have hvc := hvb.then xc
            have zc := zb.then xc
            obtain ⟨_, _, s1⟩ := (oP1.then xc).rd
            obtain ⟨_, _, s2⟩ := oP2.rd
            obtain ⟨_, s3⟩ := (oD1.then xc).rd
            obtain ⟨_, s4⟩ := oD2.rd
            have hP := plain_Pairs s1 s2
            rw [beq_self_eq_true] at hP
            clear hvb hxb zb oP1 oD1 oP2 oD2 s1 s2 xb xc
            dsimp only
            go_wp2_with (first
              | (go_at_call 35; refine hP.mono ?_; rintro e wd ⟨rfl, xd⟩
                 have hB := plain_Bytes (s3.then xd) (s4.then xd)
                 rw [beq_self_eq_true] at hB)
              | (go_at_call 40; refine hB.mono ?_; rintro e we ⟨rfl, xe⟩))
            go_roundw
            case rel => exact ⟨i + 1, _, _, _, by go_num, by omega, by omega, hn1, hvc.then (xd.then xe), hxc.then (xd.then xe), zc.then (xd.then xe)⟩
            case measure => simp [intOf]; omega
        by_cases o3 : op = 3
        · subst o3
          go_wp2_with fail
          generalize wr.alloc (.cells #[.int .i64 3, .slice kp k.length kc, .slice vp v.length vc] 70) = wa at *
          generalize wr.heap.size = kb at *
          have kn : kb ∉ V.M := fun hm => hva.nobytes (by decide) kb hm _ _ dh
          have d1 : wa.cell? ⟨kb, 1, none⟩ = some (.slice kp k.length kc) := cell_of dh rfl
          have d2 : wa.cell? ⟨kb, 2, none⟩ = some (.slice vp v.length vc) := cell_of dh rfl
          have xd : Ext [] wa wa.drew := (Ext.refl [] wa).drew
          have hvd := hva.then xd
          have hxd := hxa.then xd
          have zd := z0.then xd
          go_region_held3 (fun W => W.cell? ⟨kb, 1, none⟩ = some (.slice kp k.length kc))
            (first | exact d1 | exact e1 | exact e3)
            (first
              | (go_at_call 9; refine (view_DeleteA hvd _ k (ck _ zd)).mono ?_; rintro e w2 ⟨rfl, hv2, x2⟩
                 have dh2 := x2.at (xd.at dh (by simp)) kn
                 have e1 : w2.cell? ⟨kb, 1, none⟩ = some (.slice kp k.length kc) := cell_of dh2 rfl
                 have z2 := old_view zd hV x2
                 have hx2 := hxd.vext hvd x2)
              | (go_at_call 33; refine (ref_DeleteA hx2 (by omega) _ k (Stay.old hk z2)).mono ?_; rintro e w3 ⟨rfl, hx3, x3⟩
                 have dh3 := x3.at dh2 (by decide) (by decide)
                 have e3 : w3.cell? ⟨kb, 1, none⟩ = some (.slice kp k.length kc) := cell_of dh3 rfl
                 have hv3 := hv2.rext x3
                 have z3 := x3.old z2))
          all_goals
            have hn1 : n + 1 ≤ n0 + (i + 1) := by omega
            clear hva hxa z0 za dh dh2 dh3 d1 d2 e1 e3 hvd hxd zd hv2 hx2 z2 xd x2 x3
            go_wp2_with fail
            refine (view_Changes hv3 (by omega)).mono ?_
            rintro e wb ⟨r1, r2, rfl, oP1, oD1, xb⟩
            dsimp only
            have hxb := hx3.then xb
            have hvb := hv3.then xb
            have zb := z3.then xb
            clear hv3 hx3
            go_wp2_with fail
            refine (ref_Changes hxb (by omega)).mono ?_
            rintro e wc ⟨r3, r4, rfl, oP2, oD2, xc⟩
            have hxc := hxb.then xc
            have hvc := hvb.then xc
            have zc := zb.then xc
            obtain ⟨_, _, s1⟩ := (oP1.then xc).rd
            obtain ⟨_, _, s2⟩ := oP2.rd
            obtain ⟨_, s3⟩ := (oD1.then xc).rd
            obtain ⟨_, s4⟩ := oD2.rd
            have hP := plain_Pairs s1 s2
            rw [beq_self_eq_true] at hP
            clear hvb hxb zb oP1 oD1 oP2 oD2 s1 s2 xb xc
            dsimp only
            go_wp2_with (first
              | (go_at_call 35; refine hP.mono ?_; rintro e wd ⟨rfl, xd⟩
                 have hB := plain_Bytes (s3.then xd) (s4.then xd)
                 rw [beq_self_eq_true] at hB)
              | (go_at_call 40; refine hB.mono ?_; rintro e we ⟨rfl, xe⟩))
            go_roundw
            case rel => exact ⟨i + 1, _, _, _, by go_num, by omega, by omega, hn1, hvc.then (xd.then xe), hxc.then (xd.then xe), zc.then (xd.then xe)⟩
            case measure => simp [intOf]; omega
        by_cases o4 : op = 4
        · subst o4
          go_wp2_with fail
          generalize wr.alloc (.cells #[.int .i64 4, .slice kp k.length kc, .slice vp v.length vc] 70) = wa at *
          generalize wr.heap.size = kb at *
          have kn : kb ∉ V.M := fun hm => hva.nobytes (by decide) kb hm _ _ dh
          have d1 : wa.cell? ⟨kb, 1, none⟩ = some (.slice kp k.length kc) := cell_of dh rfl
          have d2 : wa.cell? ⟨kb, 2, none⟩ = some (.slice vp v.length vc) := cell_of dh rfl
          refine (view_Get hva _ k (ck _ z0)).mono ?_
          rintro e w2 ⟨q1, rfl, m1, x2⟩
          have dh2 := x2.at dh (by simp)
          have d3 : w2.cell? ⟨kb, 1, none⟩ = some (.slice kp k.length kc) := cell_of dh2 rfl
          have z2 := z0.then x2
          have hx2 := hxa.then x2
          dsimp only
          go_wp2_with fail
          refine (ref_Get hx2 _ k (ck _ z2)).mono ?_
          rintro e w3 ⟨q2, rfl, m2, x3⟩
          have hx3 := hx2.then x3
          have hv3 := hva.then (x2.then x3)
          have z3 := z2.then x3
          have hn1 : n ≤ n0 + (i + 1) := by omega
          have hE := bytes_Equal _ _ _ _ _ (m1.bs.then x3) m2.bs
          rw [beq_self_eq_true] at hE
          clear hva hxa z0 za dh dh2 d1 d2 d3 hx2 z2 x2 x3 m1 m2
          dsimp only
          go_wp2_with (go_at_call 21; refine hE.mono ?_; rintro e w4 ⟨rfl, rfl⟩)
          go_wp2_with fail
          refine (view_Changes hv3 (by omega)).mono ?_
          rintro e wb ⟨r1, r2, rfl, oP1, oD1, xb⟩
          dsimp only
          have hxb := hx3.then xb
          have hvb := hv3.then xb
          have zb := z3.then xb
          clear hv3 hx3
          go_wp2_with fail
          refine (ref_Changes hxb (by omega)).mono ?_
          rintro e wc ⟨r3, r4, rfl, oP2, oD2, xc⟩
          have hxc := hxb.then xc
          have hvc := hvb.then xc
          have zc := zb.then xc
          obtain ⟨_, _, s1⟩ := (oP1.then xc).rd
          obtain ⟨_, _, s2⟩ := oP2.rd
          obtain ⟨_, s3⟩ := (oD1.then xc).rd
          obtain ⟨_, s4⟩ := oD2.rd
          have hP := plain_Pairs s1 s2
          rw [beq_self_eq_true] at hP
          clear hvb hxb zb oP1 oD1 oP2 oD2 s1 s2 xb xc
          dsimp only
          go_wp2_with (first
            | (go_at_call 35; refine hP.mono ?_; rintro e wd ⟨rfl, xd⟩
               have hB := plain_Bytes (s3.then xd) (s4.then xd)
               rw [beq_self_eq_true] at hB)
            | (go_at_call 40; refine hB.mono ?_; rintro e we ⟨rfl, xe⟩))
          go_roundw
          case rel => exact ⟨i + 1, _, _, _, by go_num, by omega, by omega, hn1, hvc.then (xd.then xe), hxc.then (xd.then xe), zc.then (xd.then xe)⟩
          case measure => simp [intOf]; omega
        by_cases o5 : op = 5
        · subst o5
          go_wp2_with fail
          generalize wr.alloc (.cells #[.int .i64 5, .slice kp k.length kc, .slice vp v.length vc] 70) = wa at *
          generalize wr.heap.size = kb at *
          have kn : kb ∉ V.M := fun hm => hva.nobytes (by decide) kb hm _ _ dh
          have d1 : wa.cell? ⟨kb, 1, none⟩ = some (.slice kp k.length kc) := cell_of dh rfl
          have d2 : wa.cell? ⟨kb, 2, none⟩ = some (.slice vp v.length vc) := cell_of dh rfl
          have xd : Ext [] wa wa.drew := (Ext.refl [] wa).drew
          have hvd := hva.then xd
          have hxd := hxa.then xd
          have zd := z0.then xd
          go_region_held3 (fun W => W.cell? ⟨kb, 1, none⟩ = some (.slice kp k.length kc))
            (first | exact d1 | exact e1 | exact e3 | exact e5)
            (first
              | (go_at_call 10; refine (view_Scan hvd (by omega) _ k (ck _ zd)).mono ?_; rintro e w2 ⟨q1, rfl, o1, x2⟩
                 have dh2 := x2.at (xd.at dh (by simp)) (by simp)
                 have e1 : w2.cell? ⟨kb, 1, none⟩ = some (.slice kp k.length kc) := cell_of dh2 rfl
                 have z2 := zd.then x2
                 have hx2 := hxd.then x2)
              | (go_at_call 36; refine (ref_Scan hx2 (by omega) _ k (ck _ z2)).mono ?_; rintro e w3 ⟨q2, rfl, o2, x3⟩
                 have dh3 := x3.at dh2 (by simp)
                 have e3 : w3.cell? ⟨kb, 1, none⟩ = some (.slice kp k.length kc) := cell_of dh3 rfl
                 have z4 := z2.then x3
                 obtain ⟨_, _, s5⟩ := (o1.then x3).rd
                 obtain ⟨_, _, s6⟩ := o2.rd
                 have hPs := plain_Pairs s5 s6
                 rw [beq_self_eq_true] at hPs)
              | (go_at_call 35; refine hPs.mono ?_; rintro e w4 ⟨rfl, x4⟩
                 have dh4 := x4.at dh3 (by simp)
                 have e5 : w4.cell? ⟨kb, 1, none⟩ = some (.slice kp k.length kc) := cell_of dh4 rfl
                 have hv3 := hvd.then ((x2.then x3).then x4)
                 have hx3 := (hx2.then x3).then x4
                 have z3 := z4.then x4))
          all_goals
            have hn1 : n ≤ n0 + (i + 1) := by omega
            clear hva hxa z0 za dh dh2 dh3 dh4 d1 d2 e1 e3 e5 hvd hxd zd hx2 z2 xd x2 x3 x4 z4 hPs s5 s6 o1 o2
            go_wp2_with fail
            refine (view_Changes hv3 (by omega)).mono ?_
            rintro e wb ⟨r1, r2, rfl, oP1, oD1, xb⟩
            dsimp only
            have hxb := hx3.then xb
            have hvb := hv3.then xb
            have zb := z3.then xb
            clear hv3 hx3
            go_wp2_with fail
            refine (ref_Changes hxb (by omega)).mono ?_
            rintro e wc ⟨r3, r4, rfl, oP2, oD2, xc⟩
            have hxc := hxb.then xc
            have hvc := hvb.then xc
            have zc := zb.then xc
            obtain ⟨_, _, s1⟩ := (oP1.then xc).rd
            obtain ⟨_, _, s2⟩ := oP2.rd
            obtain ⟨_, s3⟩ := (oD1.then xc).rd
            obtain ⟨_, s4⟩ := oD2.rd
            have hP := plain_Pairs s1 s2
            rw [beq_self_eq_true] at hP
            clear hvb hxb zb oP1 oD1 oP2 oD2 s1 s2 xb xc
            dsimp only
            go_wp2_with (first
              | (go_at_call 35; refine hP.mono ?_; rintro e wd ⟨rfl, xd⟩
                 have hB := plain_Bytes (s3.then xd) (s4.then xd)
                 rw [beq_self_eq_true] at hB)
              | (go_at_call 40; refine hB.mono ?_; rintro e we ⟨rfl, xe⟩))
            go_roundw
            case rel => exact ⟨i + 1, _, _, _, by go_num, by omega, by omega, hn1, hvc.then (xd.then xe), hxc.then (xd.then xe), zc.then (xd.then xe)⟩
            case measure => simp [intOf]; omega
        by_cases o6 : op = 6
        · subst o6
          go_wp2_with fail
          generalize wr.alloc (.cells #[.int .i64 6, .slice kp k.length kc, .slice vp v.length vc] 70) = wa at *
          generalize wr.heap.size = kb at *
          have kn : kb ∉ V.M := fun hm => hva.nobytes (by decide) kb hm _ _ dh
          have d1 : wa.cell? ⟨kb, 1, none⟩ = some (.slice kp k.length kc) := cell_of dh rfl
          have d2 : wa.cell? ⟨kb, 2, none⟩ = some (.slice vp v.length vc) := cell_of dh rfl
          refine (view_Commit hva (by omega)).mono ?_
          rintro e w2 ⟨rfl, hv2, x2⟩
          have z2 := old_view z0 hV x2
          have hx2 := hxa.vext hva x2
          dsimp only
          clear hva hxa z0 za dh d1 d2 x2
          go_wp2_with fail
          refine (ref_Commit hx2).mono ?_
          rintro e w3 ⟨rfl, hx3, x3⟩
          have hv3 := hv2.rext x3
          have z3 := x3.old z2
          have hn1 : n ≤ n0 + (i + 1) := by omega
          clear hx2 hv2 z2 x3
          dsimp only
          go_wp2_with fail
          refine (view_Changes hv3 (by omega)).mono ?_
          rintro e wb ⟨r1, r2, rfl, oP1, oD1, xb⟩
          dsimp only
          have hxb := hx3.then xb
          have hvb := hv3.then xb
          have zb := z3.then xb
          clear hv3 hx3
          go_wp2_with fail
          refine (ref_Changes hxb (by omega)).mono ?_
          rintro e wc ⟨r3, r4, rfl, oP2, oD2, xc⟩
          have hxc := hxb.then xc
          have hvc := hvb.then xc
          have zc := zb.then xc
          obtain ⟨_, _, s1⟩ := (oP1.then xc).rd
          obtain ⟨_, _, s2⟩ := oP2.rd
          obtain ⟨_, s3⟩ := (oD1.then xc).rd
          obtain ⟨_, s4⟩ := oD2.rd
          have hP := plain_Pairs s1 s2
          rw [beq_self_eq_true] at hP
          clear hvb hxb zb oP1 oD1 oP2 oD2 s1 s2 xb xc
          dsimp only
          go_wp2_with (first
            | (go_at_call 35; refine hP.mono ?_; rintro e wd ⟨rfl, xd⟩
               have hB := plain_Bytes (s3.then xd) (s4.then xd)
               rw [beq_self_eq_true] at hB)
            | (go_at_call 40; refine hB.mono ?_; rintro e we ⟨rfl, xe⟩))
          go_roundw
          case rel => exact ⟨i + 1, _, _, _, by go_num, by omega, by omega, hn1, hvc.then (xd.then xe), hxc.then (xd.then xe), zc.then (xd.then xe)⟩
          case measure => simp [intOf]; omega
        go_wp2_with fail
        generalize wr.alloc (.cells #[.int .i64 op, .slice kp k.length kc, .slice vp v.length vc] 70) = wa at *
        generalize wr.heap.size = kb at *
        have kn : kb ∉ V.M := fun hm => hva.nobytes (by decide) kb hm _ _ dh
        have d1 : wa.cell? ⟨kb, 1, none⟩ = some (.slice kp k.length kc) := cell_of dh rfl
        have d2 : wa.cell? ⟨kb, 2, none⟩ = some (.slice vp v.length vc) := cell_of dh rfl
        refine (view_Abort hva).mono ?_
        rintro e w2 ⟨rfl, hv2, x2⟩
        have z2 := old_view z0 hV x2
        have hx2 := hxa.vext hva x2
        dsimp only
        clear hva hxa z0 za dh d1 d2 x2
        go_wp2_with fail
        refine (ref_Abort hx2).mono ?_
        rintro e w3 ⟨rfl, hx3, x3⟩
        have hv3 := hv2.rext x3
        have z3 := x3.old z2
        have hn1 : n ≤ n0 + (i + 1) := by omega
        clear hx2 hv2 z2 x3
        dsimp only
        go_wp2_with fail
        refine (view_Changes hv3 (by omega)).mono ?_
        rintro e wb ⟨r1, r2, rfl, oP1, oD1, xb⟩
        dsimp only
        have hxb := hx3.then xb
        have hvb := hv3.then xb
        have zb := z3.then xb
        clear hv3 hx3
        go_wp2_with fail
        refine (ref_Changes hxb (by omega)).mono ?_
        rintro e wc ⟨r3, r4, rfl, oP2, oD2, xc⟩
        have hxc := hxb.then xc
        have hvc := hvb.then xc
        have zc := zb.then xc
        obtain ⟨_, _, s1⟩ := (oP1.then xc).rd
        obtain ⟨_, _, s2⟩ := oP2.rd
        obtain ⟨_, s3⟩ := (oD1.then xc).rd
        obtain ⟨_, s4⟩ := oD2.rd
        have hP := plain_Pairs s1 s2
        rw [beq_self_eq_true] at hP
        clear hvb hxb zb oP1 oD1 oP2 oD2 s1 s2 xb xc
        dsimp only
        go_wp2_with (first
          | (go_at_call 35; refine hP.mono ?_; rintro e wd ⟨rfl, xd⟩
             have hB := plain_Bytes (s3.then xd) (s4.then xd)
             rw [beq_self_eq_true] at hB)
          | (go_at_call 40; refine hB.mono ?_; rintro e we ⟨rfl, xe⟩))
        go_roundw
        case rel => exact ⟨i + 1, _, _, _, by go_num, by omega, by omega, hn1, hvc.then (xd.then xe), hxc.then (xd.then xe), zc.then (xd.then xe)⟩
        case measure => simp [intOf]; omega
      · have hb' : 60 ≤ i ∨ i < 60 ∧ 60 < k.length ∨ i < 60 ∧ k.length ≤ 60 ∧ 200 < v.length := by omega
        rcases hb' with q1 | ⟨q1, q2⟩ | ⟨q1, q2, q3⟩
        · have p1 : decide ((60 : Int) ≤ (i : Int)) = true := by simp; omega
          have z0 := h0x.alloc (.cells #[.int .i64 op, .slice kp k.length kc, .slice vp v.length vc] 70)
          have za := ((Ext.refl [] wr).alloc (.cells #[.int .i64 op, .slice kp k.length kc, .slice vp v.length vc] 70))
          have hva := hv.then za
          have hxa := hx.then za
          go_wp2_with fail
          refine (plain_Same hva hxa (by omega)).mono ?_
          rintro e w2 ⟨rfl, x2⟩
          go_wp2_with fail
          go_ret
          exact ⟨rfl, z0.then x2⟩
        · have p1 : decide ((60 : Int) ≤ (i : Int)) = false := by simp; omega
          have p2 : decide ((60 : Int) < (k.length : Int)) = true := by simp; omega
          have z0 := h0x.alloc (.cells #[.int .i64 op, .slice kp k.length kc, .slice vp v.length vc] 70)
          have za := ((Ext.refl [] wr).alloc (.cells #[.int .i64 op, .slice kp k.length kc, .slice vp v.length vc] 70))
          have hva := hv.then za
          have hxa := hx.then za
          go_wp2_with fail
          refine (plain_Same hva hxa (by omega)).mono ?_
          rintro e w2 ⟨rfl, x2⟩
          go_wp2_with fail
          go_ret
          exact ⟨rfl, z0.then x2⟩
        · have p1 : decide ((60 : Int) ≤ (i : Int)) = false := by simp; omega
          have p2 : decide ((60 : Int) < (k.length : Int)) = false := by simp; omega
          have p3 : decide ((200 : Int) < (v.length : Int)) = true := by simp; omega
          have z0 := h0x.alloc (.cells #[.int .i64 op, .slice kp k.length kc, .slice vp v.length vc] 70)
          have za := ((Ext.refl [] wr).alloc (.cells #[.int .i64 op, .slice kp k.length kc, .slice vp v.length vc] 70))
          have hva := hv.then za
          have hxa := hx.then za
          go_wp2_with fail
          refine (plain_Same hva hxa (by omega)).mono ?_
          rintro e w2 ⟨rfl, x2⟩
          go_wp2_with fail
          go_ret
          exact ⟨rfl, z0.then x2⟩
    · have p0 : ¬ ((i : Int) < (css.length : Int)) := by omega
      go_wp2_with fail
      refine (plain_Same hv hx (by omega)).mono ?_
      rintro e w2 ⟨rfl, x2⟩
      go_wp2_with fail
      go_ret
      exact ⟨rfl, h0x.then x2⟩
end Go.Proofs.YthifoaclmfbhdaaGreatDoor
