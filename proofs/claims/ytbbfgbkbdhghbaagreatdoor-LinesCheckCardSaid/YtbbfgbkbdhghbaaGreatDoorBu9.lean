/-
  The document's lines: right, Check, Funds, Equal.
  The document's lines: Check and Equal.
  An argument's lines, opened.
  exchequerlaw23.LinesCheck answers true.
-/
import Derived.Test.YtbbfgbkbdhghbaaGreatDoorBu8
import Derived.Test.YtbbfgbkbdhghbaaGreatDoorBu7
import Derived.Test.YtbbfgbkbdhghbaaGreatDoorBu6
set_option linter.unusedVariables false
set_option linter.unusedSimpArgs false
namespace Go.Proofs.YtbbfgbkbdhghbaaGreatDoor
open Go.RowKit
variable {w : World} {B s n : Nat} {was now : Tbl} {U : TypeId}

theorem r23_right (x : Ln) (w : World) : Calls Tryz.prog 37 #[lnV x] w fun e w' => e = .returned (.bool (rightL x)) ∧ Ext [] w w' := by
  obtain ⟨f, o, nd, a⟩ := x
  simp only [lnV]
  have x0 := (Ext.refl [] w).alloc (.cells #[.int .i64 f, .int .i64 o, .int .i64 nd, .int .i64 a] 37)
  by_cases h1 : a < -9007199254740992
  · have HE := Lib.hid (show rightL (f, o, nd, a) = false by simp [rightL, show ¬ (-9007199254740992 ≤ a) by omega])
    go_enter Tryz.func37, Tryz.ntmps37
    go_wp2_with fail
    go_ret
    exact ⟨ret_bool HE.out.symm, x0⟩
  by_cases h2 : 9007199254740992 < a
  · have HE := Lib.hid (show rightL (f, o, nd, a) = false by simp [rightL, show ¬ (a ≤ 9007199254740992) by omega])
    go_enter Tryz.func37, Tryz.ntmps37
    go_wp2_with fail
    go_ret
    exact ⟨ret_bool HE.out.symm, x0⟩
  have i1 : -9007199254740992 ≤ a := by omega
  have i2 : a ≤ 9007199254740992 := by omega
  by_cases h3 : a = 0
  · have HE := Lib.hid (show rightL (f, o, nd, a) = false by simp [rightL, h3])
    have b3 : (a == 0) = true := by simp [h3]
    clear h3
    go_enter Tryz.func37, Tryz.ntmps37
    go_wp2_with fail
    go_ret
    exact ⟨ret_bool HE.out.symm, x0⟩
  have b3 : (a == 0) = false := by simpa using h3
  by_cases h4 : nd = 0
  · have b4 : (nd != 0) = false := by simp [h4]
    by_cases h5 : o = 1900
    · have HE := Lib.hid (show rightL (f, o, nd, a) = false by simp [rightL, h5])
      have b5 : (o != 1900) = false := by simp [h5]
      clear h3 h4 h5
      go_enter Tryz.func37, Tryz.ntmps37
      go_wp2_with fail
      go_ret
      exact ⟨ret_bool HE.out.symm, x0⟩
    · have e3 : (a == 0) = false := beq_eq_false_iff_ne.2 h3
      have e5 : (o == 1900) = false := beq_eq_false_iff_ne.2 h5
      have HE := Lib.hid (show rightL (f, o, nd, a) = (o != 2900) by simp only [rightL, e3, h4, e5, decide_eq_true i1, decide_eq_true i2]; rfl)
      have b5 : (o != 1900) = true := by simpa using h5
      clear h3 h4 h5
      go_enter Tryz.func37, Tryz.ntmps37
      go_wp2_with fail
      go_ret
      exact ⟨ret_bool HE.out.symm, x0⟩
  · have HE := Lib.hid (show rightL (f, o, nd, a) = false by simp [rightL, h4])
    have b4 : (nd != 0) = true := by simpa using h4
    clear h3 h4
    go_enter Tryz.func37, Tryz.ntmps37
    go_wp2_with fail
    go_ret
    exact ⟨ret_bool HE.out.symm, x0⟩

theorem flat_len (l : List Ln) : (l.flatMap lnC).length = l.length * 4 := by
  have := flatten_len (k := 4) (l.map lnC) (fun c hc => by obtain ⟨x, _, rfl⟩ := List.mem_map.1 hc; rfl)
  rw [List.flatMap_def, this, List.length_map]
theorem flat_set1 (l : List Ln) : ∀ (i : Nat) (a : Int) (h : i < l.length), (l.flatMap lnC).set (i * 4 + 3) (.int .i64 a) = (l.set i (l[i].1, l[i].2.1, l[i].2.2.1, a)).flatMap lnC := by
  induction l with
  | nil => intro i a h; simp at h
  | cons x l ih =>
    intro i a h
    cases i with
    | zero => simp [lnC]
    | succ i =>
      have := ih i a (by simpa using h)
      have e : (i + 1) * 4 + 3 = i * 4 + 3 + 1 + 1 + 1 + 1 := by omega
      simp only [List.flatMap_cons, lnC, e, List.cons_append, List.nil_append, List.set_cons_succ, List.getElem_cons_succ] at this ⊢
      rw [this]
theorem own_set1 {w : World} {base T g n cap : Nat} {l : List Ln} (h : w.ownsRow base T 4 (.slice (some ⟨g, 0, none⟩) n cap) n (l.flatMap lnC)) {i : Nat} (hi : i < l.length) (a : Int) :
    (w.setCell ⟨g, i * 4 + 3, none⟩ (.int .i64 a)).ownsRow base T 4 (.slice (some ⟨g, 0, none⟩) n cap) n ((l.set i (l[i].1, l[i].2.1, l[i].2.2.1, a)).flatMap lnC) := by
  obtain ⟨hl, ⟨h0, _⟩ | ⟨g', cap', cur, hv, hb, hg, h1, h2, h3, h4⟩⟩ := h
  · cases h0
  · cases hv
    refine ⟨by rw [← flat_set1 l i a hi]; simpa using hl, .inr ⟨g, cap, _, rfl, hb, setCell_at hg _, h1, h2, by simpa using h3, ?_⟩⟩
    rw [← flat_set1 l i a hi, ← h4]
    simp only [Array.toList_setIfInBounds, List.take_set]

set_option maxHeartbeats 4000000 in
set_option maxRecDepth 20000 in
theorem r23_Funds {v : Value} {l : List Ln} (hl : Lns w U v l) (hn : l.length ≤ 1048576) (hI : ∀ x ∈ l, I64 x.2.2.2) :
    Calls Tryz.prog 15 #[v] w fun e w' => ∃ r, e = .returned r ∧ OwnL w.heap.size w' r (fundsL l) ∧ Ext [] w w' := by
  obtain ⟨p, c, rfl, g1, g2⟩ := Sl.shape hl
  go_enter Tryz.func15, Tryz.ntmps15
  go_wp2_with fail
  go_loopw [3, 4] (fun o y wr => ∃ i : Nat, i ≤ l.length ∧ y = .int .i64 i ∧ OwnL w.heap.size wr o (fundsL (l.take i)) ∧ Ext [] w wr) (fun _ y _ => l.length - (intOf y).toNat)
  case atStart =>
    have e : fundsL (l.take 0) = [] := by simp [fundsL, fundsOf, sumsOf]
    exact ⟨0, Nat.zero_le _, rfl, by rw [e]; exact own_nil _ _ _ _, Ext.refl _ _⟩
  case round =>
    obtain ⟨i, hi, rfl, ho, hx⟩ := hrel
    by_cases hlt : i < l.length
    · obtain ⟨b, off, c', hpp, _⟩ := Sl.at hl (by omega)
      injection hpp with hpp _ hc'
      subst hpp; subst hc'
      have hIx := hI l[i] (List.getElem_mem hlt)
      have HT := Lib.hid (List.take_succ_eq_append_getElem hlt)
      obtain ⟨w5, hw5⟩ : ∃ w5, w5 = wr := ⟨_, rfl⟩
      subst hw5
      obtain ⟨P, hP⟩ : ∃ P, P = fundsOf (l.take i) := ⟨_, rfl⟩
      have hLP : fundsL (l.take i) = P.map lnF := by rw [fundsL, hP]
      rw [hLP] at ho
      have hPl : P.length ≤ i := by
        have := (fundsOf_perm (l.take i)).length_eq
        have := sumsOf_len (l.take i)
        rw [List.length_take] at this
        rw [hP]; omega
      have HP := Lib.hid hP
      have ho' := ho.own
      rw [List.length_map] at ho'
      obtain ⟨op, oc, rfl, q1, q2⟩ := own_size ho'
      clear hP hLP ho
      go_wp2_with fail
      go_loopw [5] (fun s ws => ∃ k : Nat, k ≤ P.length ∧ s = .int .i64 k ∧ (∀ j (h : j < P.length), j < k → P[j].1 < l[i].1) ∧ Ext [] w5 ws) (fun s _ => P.length - (intOf s).toNat)
      case atStart => exact ⟨0, Nat.zero_le _, rfl, fun j _ h => by omega, Ext.refl _ _⟩
      case round =>
        obtain ⟨k, hk, rfl, hlow, hy⟩ := hrel
        have hLn := (hl.then hx).then hy
        by_cases hkl : k < P.length
        · obtain ⟨g, rfl⟩ : ∃ g, op = some ⟨g, 0, none⟩ := by
            obtain ⟨_, ⟨h0, h00⟩ | ⟨g, cap, cur, hv, _⟩⟩ := ho'
            · omega
            · injection hv with hv; exact ⟨g, hv⟩
          have hoy := own_then ho' hy
          have hLk : Lns wr 37 (.slice (some ⟨g, 0, none⟩) P.length oc) (P.map lnF) := by
            have := Sl.of_own hoy (by decide)
            unfold Lns
            rw [List.length_map]
            exact this
          obtain ⟨e1, _, _, e4⟩ := hLk.at (i := k) (by simpa using hkl)
          simp only [Nat.zero_add, List.getElem_map, lnF] at e1 e4
          obtain ⟨f1, _, _, f4⟩ := hLn.at hlt
          have d1 : wr.drew.cell? ⟨g, k * 4, none⟩ = some (.int .i64 P[k].1) := e1
          have d2 : wr.drew.cell? ⟨b, off + i * 4, none⟩ = some (.int .i64 l[i].1) := f1
          have k1 : (k : Int) < (P.length : Int) := by omega
          have k2 : (i : Int) < (l.length : Int) := by omega
          by_cases hc : P[k].1 < l[i].1
          · have HL := Lib.hid hlow
            have HC := Lib.hid hc
            have hcb : decide (P[k].1 < l[i].1) = true := decide_eq_true hc
            clear hlow
            go_wp2_with fail
            go_region
            all_goals
              go_wp2_with fail
              refine ⟨⟨k + 1, by omega, by go_num, fun j h hj => ?_, hy.drew⟩, by simp [intOf]; omega⟩
              rcases Nat.lt_succ_iff_lt_or_eq.1 hj with hj | rfl
              · exact HL.out j h hj
              · exact HC.out
          · have HL := Lib.hid hlow
            have HC := Lib.hid hc
            have hcb : decide (P[k].1 < l[i].1) = false := decide_eq_false hc
            clear hlow
            go_wp2_with fail
            go_region
            all_goals
              go_wp2_with fail
              have c1 : wr.drew.drew.cell? ⟨g, k * 4, none⟩ = some (.int .i64 P[k].1) := e1
              have c2 : wr.drew.drew.cell? ⟨b, off + i * 4, none⟩ = some (.int .i64 l[i].1) := f1
              have hat : At P l[i].1 k := ⟨hk, HL.out, fun _ => by have := HC.out; omega⟩
              have HAT := Lib.hid hat
              clear hat
              by_cases he : P[k].1 = l[i].1
              · have heb : (P[k].1 == l[i].1) = true := by simp [he]
                have HE := Lib.hid he
                clear he
                go_region
                all_goals
                  obtain ⟨cur, hg, _⟩ := own_cells hoy
                  have c3 : wr.drew.drew.drew.cell? ⟨g, k * 4 + 3, none⟩ = some (.int .i64 P[k].2) := e4
                  have c4 : wr.drew.drew.drew.cell? ⟨b, off + i * 4 + 3, none⟩ = some (.int .i64 l[i].2.2.2) := f4
                  have z3 : wr.drew.drew.drew.frozen? ⟨g, k * 4 + 3, none⟩ = false := frozen_of_row wr.drew.drew.drew g _ _ _ hg
                  go_wp2_with fail
                  go_region
                  all_goals
                    go_wp2_with fail
                    have hat := HAT.out
                    have hE := HE.out
                    have hHT := HT.out
                    have hsn := funds_snoc (l := l.take i) (x := l[i]) (by rw [← HP.out]; exact hat) hIx
                    rw [← HP.out, ← hHT] at hsn
                    have hpin : pins P l[i].1 l[i].2.2.2 k = P.set k (l[i].1, wrap64 (P[k].2 + l[i].2.2.2)) := by unfold pins; rw [dif_pos hkl, if_pos hE]
                    have hoy4 : wr.ownsRow w.heap.size 37 4 (.slice (some ⟨g, 0, none⟩) P.length oc) P.length ((P.map lnF).flatMap lnC) := hoy
                    have hs1 := own_set1 hoy4 (i := k) (by simpa using hkl) (wrap64 (P[k].2 + l[i].2.2.2))
                    have hkm : k < (P.map lnF).length := by simpa using hkl
                    have hfin : fundsL (l.take (i + 1)) = (P.map lnF).set k ((P.map lnF)[k].1, (P.map lnF)[k].2.1, (P.map lnF)[k].2.2.1, wrap64 (P[k].2 + l[i].2.2.2)) := by
                      rw [fundsL, ← hsn, hpin, List.map_set, List.getElem_map, ← hE]
                      rfl
                    have hgw : w.heap.size ≤ g := own_fresh ho' g rfl
                    have xs : Ext [] w (wr.setCell ⟨g, k * 4 + 3, none⟩ (.int .i64 (wrap64 (P[k].2 + l[i].2.2.2)))) := (hx.then hy).trans ((Ext.refl [g] wr).setCell (fun _ => by simp) _) (fun b hb hl => by simp at hb; omega)
                    refine ⟨⟨i + 1, by omega, by go_num, ?_, xs.drew.drew.drew⟩, by simp [intOf]; omega⟩
                    unfold OwnL
                    rw [hfin, List.length_set, List.length_map]
                    exact own_then hs1 (((Ext.refl [] _).drew).drew).drew
              · have heb : (P[k].1 == l[i].1) = false := by simp [he]
                have HE := Lib.hid he
                clear he
                go_region
                all_goals
                  go_wp2_with fail
                  have hoy4 : wr.ownsRow w.heap.size 37 4 (.slice (some ⟨g, 0, none⟩) P.length oc) P.length ((P.map lnF).flatMap lnC) := hoy
                  have hW : Ext [] wr wr.drew.drew.drew := (((Ext.refl [] wr).drew).drew).drew
                  have hLd : Lns wr.drew.drew.drew 37 (.slice (some ⟨g, 0, none⟩) P.length oc) (P.map lnF) := hLk.then hW
                  have hLt0 := hLd.take k (by simpa using hk)
                  have htl0 : ((P.map lnF).take k).length = k := by rw [List.length_take, List.length_map]; omega
                  have hLt : Sl wr.drew.drew.drew 37 (.slice (some ⟨g, 0, none⟩) k oc) k (((P.map lnF).take k).flatMap lnC) := by
                    have := hLt0
                    unfold Lns at this
                    rw [htl0] at this
                    exact this
                  have hLd0 := hLd.drop k (by simpa using hkl)
                  have hLdr : Sl wr.drew.drew.drew 37 (.slice (some ⟨g, 0 + k * 4, none⟩) (P.length - k) (oc - k)) (P.length - k) (((P.map lnF).drop k).flatMap lnC) := by
                    have := hLd0
                    unfold Lns at this
                    rw [List.length_drop, List.length_map] at this
                    exact this
                  rw [Nat.zero_add] at hLdr
                  have hlt1 : (((P.map lnF).take k).flatMap lnC).length = k * 4 := by rw [flat_len, htl0]
                  have hlt2 : (((P.map lnF).drop k).flatMap lnC).length = (P.length - k) * 4 := by rw [flat_len, List.length_drop, List.length_map]
                  have ho1 := lnC_one ((P.map lnF).take k)
                  have ho2 := lnC_one ((P.map lnF).drop k)
                  have hP1 : P.length ≤ 1048576 := by omega
                  have n1 : (0 + k) * 32 ≤ 140737488355328 := by omega
                  have n2 : 0 + k ≤ 9223372036854775807 := by omega
                  have n3 : (0 + k + 1) * 32 ≤ 140737488355328 := by omega
                  have n4 : 0 + k + 1 ≤ 9223372036854775807 := by omega
                  have n5 : (0 + k + 1 + (P.length - k)) * 32 ≤ 140737488355328 := by omega
                  have n6 : 0 + k + 1 + (P.length - k) ≤ 9223372036854775807 := by omega
                  have m1 : wr.drew.drew.drew.cell? ⟨b, off + i * 4, none⟩ = some (.int .i64 l[i].1) := f1
                  have m2 : wr.drew.drew.drew.cell? ⟨b, off + i * 4 + 3, none⟩ = some (.int .i64 l[i].2.2.2) := f4
                  have hzs : w.heap.size ≤ wr.drew.drew.drew.heap.size := (hx.then (hy.then hW)).size
                  have h1c : ∀ u ∈ (#[.int .i64 l[i].1, .int .i64 0, .int .i64 0, .int .i64 l[i].2.2.2] : Array Value).toList, u.oneCell' = true := by simp [Value.oneCell']
                  have hko : ¬ oc = k := by omega
                  have hkc : k ≤ oc := by omega
                  have hkP : k ≤ P.length := by omega
                  have hkP' : (k : Int) ≤ (P.length : Int) := by omega
                  clear hLd hLt0 hLd0
                  go_region_held3 (fun W => W.cell? ⟨b, off + i * 4, none⟩ = some (.int .i64 l[i].1) ∧ W.cell? ⟨b, off + i * 4 + 3, none⟩ = some (.int .i64 l[i].2.2.2))
                    (first | exact ⟨m1, m2⟩ | exact ⟨x8.cell (by simp) m1, x8.cell (by simp) m2⟩ | exact ⟨x7.cell (by simp) m1, x7.cell (by simp) m2⟩ | exact ⟨x6.cell (by simp) m1, x6.cell (by simp) m2⟩ | exact ⟨(x6.alloc _).cell (by simp) m1, (x6.alloc _).cell (by simp) m2⟩ | exact ⟨((Ext.refl [] _).alloc _).cell (by simp) m1, ((Ext.refl [] _).alloc _).cell (by simp) m2⟩ | go_keep)
                    (first
                      | (refine step_app rfl (.const (.slice none 0 0)) (.tmp 65) 23 rfl Tryz.underlying23 row_line (by decide) (v := .slice none 0 0) rfl (own_nil _ wr.drew.drew.drew.heap.size _ _) (sv := .slice (some ⟨g, 0, none⟩) k oc) (by simp [Act.eval, Act.put]; done) hLt hlt1 ho1 n1 n2 (Nat.le_refl _) ?_
                         intro v6 w6 o6 y6
                         have x6 := (Ext.refl [] wr.drew.drew.drew).grown y6 (by simp [Value.ownBlock]))
                      | (refine step_app rfl (.const (.slice none 0 0)) (.tmp 65) 23 rfl Tryz.underlying23 row_line (by decide) (v := .slice none 0 0) rfl (own_nil _ wr.drew.drew.drew.heap.size _ _) (sv := .slice (some ⟨g, 0, none⟩) k oc) (by simp [Act.eval, Act.put]; done) (hLt.then ((Ext.refl [] wr.drew.drew.drew).alloc (.cells #[.int .i64 l[i].1, .int .i64 0, .int .i64 0, .int .i64 l[i].2.2.2] 37))) hlt1 ho1 n1 n2 (by simp) ?_
                         intro v6 w6 o6 y6
                         have xb := (Ext.refl [] (wr.drew.drew.drew.alloc (.cells #[.int .i64 l[i].1, .int .i64 0, .int .i64 0, .int .i64 l[i].2.2.2] 37))).grown y6 (by simp [Value.ownBlock])
                         have x6 := ((Ext.refl [] wr.drew.drew.drew).alloc (.cells #[.int .i64 l[i].1, .int .i64 0, .int .i64 0, .int .i64 l[i].2.2.2] 37)).then xb)
                      | (refine step_app rfl (.tmp 66) (.tmp 78) 23 rfl Tryz.underlying23 row_line (by decide) (v := v6) (by simp [Act.eval, Act.put]; done) (own_then o6 ((Ext.refl [] w6).alloc (.cells #[.int .i64 l[i].1, .int .i64 0, .int .i64 0, .int .i64 l[i].2.2.2] 37))) (sv := .slice (some ⟨w6.heap.size, 0, none⟩) 1 1) (by simp [Act.eval, Act.put]; done) (Sl.lit 37 4 #[.int .i64 l[i].1, .int .i64 0, .int .i64 0, .int .i64 l[i].2.2.2] 1 (by decide) rfl w6 (by decide)) rfl h1c n3 n4 (Nat.le_trans x6.size (by simp)) ?_
                         intro v7 w7 o7 y7
                         have x7 := (x6.alloc (.cells #[.int .i64 l[i].1, .int .i64 0, .int .i64 0, .int .i64 l[i].2.2.2] 37)).grown y7 (fun q hq hl => by have := own_fresh o6 q hq; exact absurd hl (Nat.not_lt.2 this)))
                      | (refine step_app rfl (.tmp 66) (.tmp 78) 23 rfl Tryz.underlying23 row_line (by decide) (v := v6) (by simp [Act.eval, Act.put]; done) o6 (sv := .slice (some ⟨wr.heap.size, 0, none⟩) 1 1) (by simp [Act.eval, Act.put]; done) ((Sl.lit 37 4 #[.int .i64 l[i].1, .int .i64 0, .int .i64 0, .int .i64 l[i].2.2.2] 1 (by decide) rfl wr.drew.drew.drew (by decide)).then xb) rfl h1c n3 n4 x6.size ?_
                         intro v7 w7 o7 y7
                         have x7 := x6.grown y7 (fun q hq hl => by have := own_fresh o6 q hq; exact absurd hl (Nat.not_lt.2 this)))
                      | (refine step_app rfl (.tmp 79) (.tmp 82) 23 rfl Tryz.underlying23 row_line (by decide) (v := v7) (by simp [Act.eval, Act.put]; done) o7 (sv := .slice (some ⟨g, k * 4, none⟩) (P.length - k) (oc - k)) (by simp [Act.eval, Act.put]; done) (hLdr.then x7) hlt2 ho2 n5 n6 x7.size ?_
                         intro v8 w8 o8 y8
                         have x8 := x7.grown y8 (fun q hq hl => by have := own_fresh o7 q hq; exact absurd hl (Nat.not_lt.2 this))))
                  all_goals
                    go_wp2_with fail
                    have hsn := funds_snoc (l := l.take i) (x := l[i]) (by rw [← HP.out]; exact HAT.out) hIx
                    rw [← HP.out, ← HT.out] at hsn
                    have hpin : pins P l[i].1 l[i].2.2.2 k = P.take k ++ [(l[i].1, l[i].2.2.2)] ++ P.drop k := by have hE := HE.out; unfold pins; rw [dif_pos hkl, if_neg hE]
                    have hfin : fundsL (l.take (i + 1)) = (P.map lnF).take k ++ [lnF (l[i].1, l[i].2.2.2)] ++ (P.map lnF).drop k := by
                      rw [fundsL, ← hsn, hpin, List.map_append, List.map_append, List.map_take, List.map_drop]
                      rfl
                    have hzz : w.heap.size ≤ wr.heap.size := (hx.then hy).size
                    refine ⟨⟨i + 1, by omega, by go_num, ?_, (hx.then (hy.then hW)).then x8⟩, by simp [intOf]; omega⟩
                    unfold OwnL
                    rw [hfin]
                    have hlen : ((P.map lnF).take k ++ [lnF (l[i].1, l[i].2.2.2)] ++ (P.map lnF).drop k).length = 0 + k + 1 + (P.length - k) := by simp; omega
                    rw [hlen, List.flatMap_append, List.flatMap_append]
                    refine own_rebase (base := wr.heap.size) ?_ (fun q hq => by have := own_fresh o8 q hq; exact Nat.le_trans hzz this)
                    simpa [lnF, lnC] using o8
        · skip
          have hkP : k = P.length := by omega
          subst hkP
          have hoy := own_then ho' hy
          have hLn' := hLn
          obtain ⟨f1, _, _, f4⟩ := hLn.at hlt
          have k2 : (i : Int) < (l.length : Int) := by omega
          have hat : At P l[i].1 P.length := ⟨Nat.le_refl _, fun j h _ => hlow j h h, fun h => absurd h (by omega)⟩
          have HAT := Lib.hid hat
          clear hat hlow
          have hop : (op = none ∧ P.length = 0 ∧ oc = 0) ∨ ∃ g, op = some ⟨g, 0, none⟩ := by
            obtain ⟨_, ⟨h0, h00⟩ | ⟨g, cap, cur, hv, _⟩⟩ := ho'
            · injection h0 with e1 e2 e3; exact .inl ⟨e1, e2, e3⟩
            · injection hv with hv; exact .inr ⟨g, hv⟩
          rcases hop with ⟨rfl, h00, rfl⟩ | ⟨g, rfl⟩
          · have z1 : ((P.length : Nat) : Int) = 0 := by omega
            go_wp2_with fail
            go_region
            all_goals
              go_wp2_with fail
              go_region
              all_goals
                go_wp2_with fail
                have hW : Ext [] wr wr.drew.drew.drew := (((Ext.refl [] wr).drew).drew).drew
                have hLt : Sl wr.drew.drew.drew 37 (.slice none 0 0) P.length ((P.map lnF).flatMap lnC) := by
                  have : P = [] := List.eq_nil_of_length_eq_zero h00
                  subst this; exact Sl.nil _ _
                have hLdr : Sl wr.drew.drew.drew 37 (.slice none 0 0) 0 (([] : List Ln).flatMap lnC) := Sl.nil _ _
                have hlt1 : ((P.map lnF).flatMap lnC).length = P.length * 4 := by rw [flat_len, List.length_map]
                have hlt2 : (([] : List Ln).flatMap lnC).length = 0 * 4 := rfl
                have ho1 := lnC_one (P.map lnF)
                have ho2 := lnC_one []
                have hP1 : P.length ≤ 1048576 := by omega
                have n1 : (0 + P.length) * 32 ≤ 140737488355328 := by omega
                have n2 : 0 + P.length ≤ 9223372036854775807 := by omega
                have n3 : (0 + P.length + 1) * 32 ≤ 140737488355328 := by omega
                have n4 : 0 + P.length + 1 ≤ 9223372036854775807 := by omega
                have n5 : (0 + P.length + 1 + 0) * 32 ≤ 140737488355328 := by omega
                have n6 : 0 + P.length + 1 + 0 ≤ 9223372036854775807 := by omega
                have m1 : wr.drew.drew.drew.cell? ⟨b, off + i * 4, none⟩ = some (.int .i64 l[i].1) := f1
                have m2 : wr.drew.drew.drew.cell? ⟨b, off + i * 4 + 3, none⟩ = some (.int .i64 l[i].2.2.2) := f4
                have hzs : w.heap.size ≤ wr.drew.drew.drew.heap.size := (hx.then (hy.then hW)).size
                have h1c : ∀ u ∈ (#[.int .i64 l[i].1, .int .i64 0, .int .i64 0, .int .i64 l[i].2.2.2] : Array Value).toList, u.oneCell' = true := by simp [Value.oneCell']
                have hkc := q1
                go_region_held3 (fun W => W.cell? ⟨b, off + i * 4, none⟩ = some (.int .i64 l[i].1) ∧ W.cell? ⟨b, off + i * 4 + 3, none⟩ = some (.int .i64 l[i].2.2.2))
                  (first | exact ⟨m1, m2⟩ | exact ⟨x8.cell (by simp) m1, x8.cell (by simp) m2⟩ | exact ⟨x7.cell (by simp) m1, x7.cell (by simp) m2⟩ | exact ⟨x6.cell (by simp) m1, x6.cell (by simp) m2⟩ | exact ⟨(x6.alloc _).cell (by simp) m1, (x6.alloc _).cell (by simp) m2⟩ | exact ⟨((Ext.refl [] _).alloc _).cell (by simp) m1, ((Ext.refl [] _).alloc _).cell (by simp) m2⟩ | go_keep)
                  (first
                    | (refine step_app rfl (.const (.slice none 0 0)) (.tmp 65) 23 rfl Tryz.underlying23 row_line (by decide) (v := .slice none 0 0) rfl (own_nil _ wr.drew.drew.drew.heap.size _ _) (sv := .slice none 0 0) (by simp [Act.eval, Act.put]; done) hLt hlt1 ho1 n1 n2 (Nat.le_refl _) ?_
                       intro v6 w6 o6 y6
                       have x6 := (Ext.refl [] wr.drew.drew.drew).grown y6 (by simp [Value.ownBlock]))
                    | (refine step_app rfl (.const (.slice none 0 0)) (.tmp 65) 23 rfl Tryz.underlying23 row_line (by decide) (v := .slice none 0 0) rfl (own_nil _ wr.drew.drew.drew.heap.size _ _) (sv := .slice none 0 0) (by simp [Act.eval, Act.put]; done) (hLt.then ((Ext.refl [] wr.drew.drew.drew).alloc (.cells #[.int .i64 l[i].1, .int .i64 0, .int .i64 0, .int .i64 l[i].2.2.2] 37))) hlt1 ho1 n1 n2 (by simp) ?_
                       intro v6 w6 o6 y6
                       have xb := (Ext.refl [] (wr.drew.drew.drew.alloc (.cells #[.int .i64 l[i].1, .int .i64 0, .int .i64 0, .int .i64 l[i].2.2.2] 37))).grown y6 (by simp [Value.ownBlock])
                       have x6 := ((Ext.refl [] wr.drew.drew.drew).alloc (.cells #[.int .i64 l[i].1, .int .i64 0, .int .i64 0, .int .i64 l[i].2.2.2] 37)).then xb)
                    | (refine step_app rfl (.tmp 66) (.tmp 78) 23 rfl Tryz.underlying23 row_line (by decide) (v := v6) (by simp [Act.eval, Act.put]; done) (own_then o6 ((Ext.refl [] w6).alloc (.cells #[.int .i64 l[i].1, .int .i64 0, .int .i64 0, .int .i64 l[i].2.2.2] 37))) (sv := .slice (some ⟨w6.heap.size, 0, none⟩) 1 1) (by simp [Act.eval, Act.put]; done) (Sl.lit 37 4 #[.int .i64 l[i].1, .int .i64 0, .int .i64 0, .int .i64 l[i].2.2.2] 1 (by decide) rfl w6 (by decide)) rfl h1c n3 n4 (Nat.le_trans x6.size (by simp)) ?_
                       intro v7 w7 o7 y7
                       have x7 := (x6.alloc (.cells #[.int .i64 l[i].1, .int .i64 0, .int .i64 0, .int .i64 l[i].2.2.2] 37)).grown y7 (fun q hq hl => by have := own_fresh o6 q hq; exact absurd hl (Nat.not_lt.2 this)))
                    | (refine step_app rfl (.tmp 66) (.tmp 78) 23 rfl Tryz.underlying23 row_line (by decide) (v := v6) (by simp [Act.eval, Act.put]; done) o6 (sv := .slice (some ⟨wr.heap.size, 0, none⟩) 1 1) (by simp [Act.eval, Act.put]; done) ((Sl.lit 37 4 #[.int .i64 l[i].1, .int .i64 0, .int .i64 0, .int .i64 l[i].2.2.2] 1 (by decide) rfl wr.drew.drew.drew (by decide)).then xb) rfl h1c n3 n4 x6.size ?_
                       intro v7 w7 o7 y7
                       have x7 := x6.grown y7 (fun q hq hl => by have := own_fresh o6 q hq; exact absurd hl (Nat.not_lt.2 this)))
                    | (refine step_app rfl (.tmp 79) (.tmp 82) 23 rfl Tryz.underlying23 row_line (by decide) (v := v7) (by simp [Act.eval, Act.put]; done) o7 (sv := .slice none 0 0) (by simp [Act.eval, Act.put]; done) (hLdr.then x7) hlt2 ho2 n5 n6 x7.size ?_
                       intro v8 w8 o8 y8
                       have x8 := x7.grown y8 (fun q hq hl => by have := own_fresh o7 q hq; exact absurd hl (Nat.not_lt.2 this))))
                all_goals
                  go_wp2_with fail
                  have hsn := funds_snoc (l := l.take i) (x := l[i]) (by rw [← HP.out]; exact HAT.out) hIx
                  rw [← HP.out, ← HT.out] at hsn
                  have hpin : pins P l[i].1 l[i].2.2.2 P.length = P ++ [(l[i].1, l[i].2.2.2)] ++ [] := by unfold pins; rw [dif_neg (by omega), List.take_length, List.drop_length]
                  have hfin : fundsL (l.take (i + 1)) = (P.map lnF) ++ [lnF (l[i].1, l[i].2.2.2)] ++ ([] : List Ln) := by
                    rw [fundsL, ← hsn, hpin, List.map_append, List.map_append]
                    rfl
                  have hzz : w.heap.size ≤ wr.heap.size := (hx.then hy).size
                  refine ⟨⟨i + 1, by omega, by go_num, ?_, (hx.then (hy.then hW)).then x8⟩, by simp [intOf]; omega⟩
                  unfold OwnL
                  rw [hfin]
                  have hlen : ((P.map lnF) ++ [lnF (l[i].1, l[i].2.2.2)] ++ ([] : List Ln)).length = 0 + P.length + 1 + 0 := by first | (simp; done) | (simp; omega)
                  rw [hlen, List.flatMap_append, List.flatMap_append]
                  refine own_rebase (base := wr.heap.size) ?_ (fun q hq => by have := own_fresh o8 q hq; exact Nat.le_trans hzz this)
                  simpa [lnF, lnC] using o8
          · by_cases hoc : oc = P.length
            · subst hoc
              go_wp2_with fail
              go_region
              all_goals
                go_wp2_with fail
                go_region
                all_goals
                  go_wp2_with fail
                  have hW : Ext [] wr wr.drew.drew.drew := (((Ext.refl [] wr).drew).drew).drew
                  have hLt : Sl wr.drew.drew.drew 37 (.slice (some ⟨g, 0, none⟩) P.length P.length) P.length ((P.map lnF).flatMap lnC) := Sl.of_own (own_then hoy hW) (by decide)
                  have hLdr : Sl wr.drew.drew.drew 37 (.slice (some ⟨g, 0, none⟩) 0 0) 0 (([] : List Ln).flatMap lnC) := ⟨_, _, rfl, Nat.zero_le _, by decide, .inl ⟨rfl, rfl⟩⟩
                  have hlt1 : ((P.map lnF).flatMap lnC).length = P.length * 4 := by rw [flat_len, List.length_map]
                  have hlt2 : (([] : List Ln).flatMap lnC).length = 0 * 4 := rfl
                  have ho1 := lnC_one (P.map lnF)
                  have ho2 := lnC_one []
                  have hP1 : P.length ≤ 1048576 := by omega
                  have n1 : (0 + P.length) * 32 ≤ 140737488355328 := by omega
                  have n2 : 0 + P.length ≤ 9223372036854775807 := by omega
                  have n3 : (0 + P.length + 1) * 32 ≤ 140737488355328 := by omega
                  have n4 : 0 + P.length + 1 ≤ 9223372036854775807 := by omega
                  have n5 : (0 + P.length + 1 + 0) * 32 ≤ 140737488355328 := by omega
                  have n6 : 0 + P.length + 1 + 0 ≤ 9223372036854775807 := by omega
                  have m1 : wr.drew.drew.drew.cell? ⟨b, off + i * 4, none⟩ = some (.int .i64 l[i].1) := f1
                  have m2 : wr.drew.drew.drew.cell? ⟨b, off + i * 4 + 3, none⟩ = some (.int .i64 l[i].2.2.2) := f4
                  have hzs : w.heap.size ≤ wr.drew.drew.drew.heap.size := (hx.then (hy.then hW)).size
                  have h1c : ∀ u ∈ (#[.int .i64 l[i].1, .int .i64 0, .int .i64 0, .int .i64 l[i].2.2.2] : Array Value).toList, u.oneCell' = true := by simp [Value.oneCell']
                  have hkc := q1
                  go_region_held3 (fun W => W.cell? ⟨b, off + i * 4, none⟩ = some (.int .i64 l[i].1) ∧ W.cell? ⟨b, off + i * 4 + 3, none⟩ = some (.int .i64 l[i].2.2.2))
                    (first | exact ⟨m1, m2⟩ | exact ⟨x8.cell (by simp) m1, x8.cell (by simp) m2⟩ | exact ⟨x7.cell (by simp) m1, x7.cell (by simp) m2⟩ | exact ⟨x6.cell (by simp) m1, x6.cell (by simp) m2⟩ | exact ⟨(x6.alloc _).cell (by simp) m1, (x6.alloc _).cell (by simp) m2⟩ | exact ⟨((Ext.refl [] _).alloc _).cell (by simp) m1, ((Ext.refl [] _).alloc _).cell (by simp) m2⟩ | go_keep)
                    (first
                      | (refine step_app rfl (.const (.slice none 0 0)) (.tmp 65) 23 rfl Tryz.underlying23 row_line (by decide) (v := .slice none 0 0) rfl (own_nil _ wr.drew.drew.drew.heap.size _ _) (sv := .slice (some ⟨g, 0, none⟩) P.length P.length) (by simp [Act.eval, Act.put]; done) hLt hlt1 ho1 n1 n2 (Nat.le_refl _) ?_
                         intro v6 w6 o6 y6
                         have x6 := (Ext.refl [] wr.drew.drew.drew).grown y6 (by simp [Value.ownBlock]))
                      | (refine step_app rfl (.const (.slice none 0 0)) (.tmp 65) 23 rfl Tryz.underlying23 row_line (by decide) (v := .slice none 0 0) rfl (own_nil _ wr.drew.drew.drew.heap.size _ _) (sv := .slice (some ⟨g, 0, none⟩) P.length P.length) (by simp [Act.eval, Act.put]; done) (hLt.then ((Ext.refl [] wr.drew.drew.drew).alloc (.cells #[.int .i64 l[i].1, .int .i64 0, .int .i64 0, .int .i64 l[i].2.2.2] 37))) hlt1 ho1 n1 n2 (by simp) ?_
                         intro v6 w6 o6 y6
                         have xb := (Ext.refl [] (wr.drew.drew.drew.alloc (.cells #[.int .i64 l[i].1, .int .i64 0, .int .i64 0, .int .i64 l[i].2.2.2] 37))).grown y6 (by simp [Value.ownBlock])
                         have x6 := ((Ext.refl [] wr.drew.drew.drew).alloc (.cells #[.int .i64 l[i].1, .int .i64 0, .int .i64 0, .int .i64 l[i].2.2.2] 37)).then xb)
                      | (refine step_app rfl (.tmp 66) (.tmp 78) 23 rfl Tryz.underlying23 row_line (by decide) (v := v6) (by simp [Act.eval, Act.put]; done) (own_then o6 ((Ext.refl [] w6).alloc (.cells #[.int .i64 l[i].1, .int .i64 0, .int .i64 0, .int .i64 l[i].2.2.2] 37))) (sv := .slice (some ⟨w6.heap.size, 0, none⟩) 1 1) (by simp [Act.eval, Act.put]; done) (Sl.lit 37 4 #[.int .i64 l[i].1, .int .i64 0, .int .i64 0, .int .i64 l[i].2.2.2] 1 (by decide) rfl w6 (by decide)) rfl h1c n3 n4 (Nat.le_trans x6.size (by simp)) ?_
                         intro v7 w7 o7 y7
                         have x7 := (x6.alloc (.cells #[.int .i64 l[i].1, .int .i64 0, .int .i64 0, .int .i64 l[i].2.2.2] 37)).grown y7 (fun q hq hl => by have := own_fresh o6 q hq; exact absurd hl (Nat.not_lt.2 this)))
                      | (refine step_app rfl (.tmp 66) (.tmp 78) 23 rfl Tryz.underlying23 row_line (by decide) (v := v6) (by simp [Act.eval, Act.put]; done) o6 (sv := .slice (some ⟨wr.heap.size, 0, none⟩) 1 1) (by simp [Act.eval, Act.put]; done) ((Sl.lit 37 4 #[.int .i64 l[i].1, .int .i64 0, .int .i64 0, .int .i64 l[i].2.2.2] 1 (by decide) rfl wr.drew.drew.drew (by decide)).then xb) rfl h1c n3 n4 x6.size ?_
                         intro v7 w7 o7 y7
                         have x7 := x6.grown y7 (fun q hq hl => by have := own_fresh o6 q hq; exact absurd hl (Nat.not_lt.2 this)))
                      | (refine step_app rfl (.tmp 79) (.tmp 82) 23 rfl Tryz.underlying23 row_line (by decide) (v := v7) (by simp [Act.eval, Act.put]; done) o7 (sv := .slice (some ⟨g, 0, none⟩) 0 0) (by simp [Act.eval, Act.put]; done) (hLdr.then x7) hlt2 ho2 n5 n6 x7.size ?_
                         intro v8 w8 o8 y8
                         have x8 := x7.grown y8 (fun q hq hl => by have := own_fresh o7 q hq; exact absurd hl (Nat.not_lt.2 this))))
                  all_goals
                    go_wp2_with fail
                    have hsn := funds_snoc (l := l.take i) (x := l[i]) (by rw [← HP.out]; exact HAT.out) hIx
                    rw [← HP.out, ← HT.out] at hsn
                    have hpin : pins P l[i].1 l[i].2.2.2 P.length = P ++ [(l[i].1, l[i].2.2.2)] ++ [] := by unfold pins; rw [dif_neg (by omega), List.take_length, List.drop_length]
                    have hfin : fundsL (l.take (i + 1)) = (P.map lnF) ++ [lnF (l[i].1, l[i].2.2.2)] ++ ([] : List Ln) := by
                      rw [fundsL, ← hsn, hpin, List.map_append, List.map_append]
                      rfl
                    have hzz : w.heap.size ≤ wr.heap.size := (hx.then hy).size
                    refine ⟨⟨i + 1, by omega, by go_num, ?_, (hx.then (hy.then hW)).then x8⟩, by simp [intOf]; omega⟩
                    unfold OwnL
                    rw [hfin]
                    have hlen : ((P.map lnF) ++ [lnF (l[i].1, l[i].2.2.2)] ++ ([] : List Ln)).length = 0 + P.length + 1 + 0 := by first | (simp; done) | (simp; omega)
                    rw [hlen, List.flatMap_append, List.flatMap_append]
                    refine own_rebase (base := wr.heap.size) ?_ (fun q hq => by have := own_fresh o8 q hq; exact Nat.le_trans hzz this)
                    simpa [lnF, lnC] using o8
            · skip
              go_wp2_with fail
              go_region
              all_goals
                go_wp2_with fail
                go_region
                all_goals
                  go_wp2_with fail
                  have hW : Ext [] wr wr.drew.drew.drew := (((Ext.refl [] wr).drew).drew).drew
                  have hLt : Sl wr.drew.drew.drew 37 (.slice (some ⟨g, 0, none⟩) P.length oc) P.length ((P.map lnF).flatMap lnC) := Sl.of_own (own_then hoy hW) (by decide)
                  have hLdr : Sl wr.drew.drew.drew 37 (.slice (some ⟨g, P.length * 4, none⟩) 0 (oc - P.length)) 0 (([] : List Ln).flatMap lnC) := ⟨_, _, rfl, Nat.zero_le _, by omega, .inl ⟨rfl, rfl⟩⟩
                  have hlt1 : ((P.map lnF).flatMap lnC).length = P.length * 4 := by rw [flat_len, List.length_map]
                  have hlt2 : (([] : List Ln).flatMap lnC).length = 0 * 4 := rfl
                  have ho1 := lnC_one (P.map lnF)
                  have ho2 := lnC_one []
                  have hP1 : P.length ≤ 1048576 := by omega
                  have n1 : (0 + P.length) * 32 ≤ 140737488355328 := by omega
                  have n2 : 0 + P.length ≤ 9223372036854775807 := by omega
                  have n3 : (0 + P.length + 1) * 32 ≤ 140737488355328 := by omega
                  have n4 : 0 + P.length + 1 ≤ 9223372036854775807 := by omega
                  have n5 : (0 + P.length + 1 + 0) * 32 ≤ 140737488355328 := by omega
                  have n6 : 0 + P.length + 1 + 0 ≤ 9223372036854775807 := by omega
                  have m1 : wr.drew.drew.drew.cell? ⟨b, off + i * 4, none⟩ = some (.int .i64 l[i].1) := f1
                  have m2 : wr.drew.drew.drew.cell? ⟨b, off + i * 4 + 3, none⟩ = some (.int .i64 l[i].2.2.2) := f4
                  have hzs : w.heap.size ≤ wr.drew.drew.drew.heap.size := (hx.then (hy.then hW)).size
                  have h1c : ∀ u ∈ (#[.int .i64 l[i].1, .int .i64 0, .int .i64 0, .int .i64 l[i].2.2.2] : Array Value).toList, u.oneCell' = true := by simp [Value.oneCell']
                  have hkc := q1
                  go_region_held3 (fun W => W.cell? ⟨b, off + i * 4, none⟩ = some (.int .i64 l[i].1) ∧ W.cell? ⟨b, off + i * 4 + 3, none⟩ = some (.int .i64 l[i].2.2.2))
                    (first | exact ⟨m1, m2⟩ | exact ⟨x8.cell (by simp) m1, x8.cell (by simp) m2⟩ | exact ⟨x7.cell (by simp) m1, x7.cell (by simp) m2⟩ | exact ⟨x6.cell (by simp) m1, x6.cell (by simp) m2⟩ | exact ⟨(x6.alloc _).cell (by simp) m1, (x6.alloc _).cell (by simp) m2⟩ | exact ⟨((Ext.refl [] _).alloc _).cell (by simp) m1, ((Ext.refl [] _).alloc _).cell (by simp) m2⟩ | go_keep)
                    (first
                      | (refine step_app rfl (.const (.slice none 0 0)) (.tmp 65) 23 rfl Tryz.underlying23 row_line (by decide) (v := .slice none 0 0) rfl (own_nil _ wr.drew.drew.drew.heap.size _ _) (sv := .slice (some ⟨g, 0, none⟩) P.length oc) (by simp [Act.eval, Act.put]; done) hLt hlt1 ho1 n1 n2 (Nat.le_refl _) ?_
                         intro v6 w6 o6 y6
                         have x6 := (Ext.refl [] wr.drew.drew.drew).grown y6 (by simp [Value.ownBlock]))
                      | (refine step_app rfl (.const (.slice none 0 0)) (.tmp 65) 23 rfl Tryz.underlying23 row_line (by decide) (v := .slice none 0 0) rfl (own_nil _ wr.drew.drew.drew.heap.size _ _) (sv := .slice (some ⟨g, 0, none⟩) P.length oc) (by simp [Act.eval, Act.put]; done) (hLt.then ((Ext.refl [] wr.drew.drew.drew).alloc (.cells #[.int .i64 l[i].1, .int .i64 0, .int .i64 0, .int .i64 l[i].2.2.2] 37))) hlt1 ho1 n1 n2 (by simp) ?_
                         intro v6 w6 o6 y6
                         have xb := (Ext.refl [] (wr.drew.drew.drew.alloc (.cells #[.int .i64 l[i].1, .int .i64 0, .int .i64 0, .int .i64 l[i].2.2.2] 37))).grown y6 (by simp [Value.ownBlock])
                         have x6 := ((Ext.refl [] wr.drew.drew.drew).alloc (.cells #[.int .i64 l[i].1, .int .i64 0, .int .i64 0, .int .i64 l[i].2.2.2] 37)).then xb)
                      | (refine step_app rfl (.tmp 66) (.tmp 78) 23 rfl Tryz.underlying23 row_line (by decide) (v := v6) (by simp [Act.eval, Act.put]; done) (own_then o6 ((Ext.refl [] w6).alloc (.cells #[.int .i64 l[i].1, .int .i64 0, .int .i64 0, .int .i64 l[i].2.2.2] 37))) (sv := .slice (some ⟨w6.heap.size, 0, none⟩) 1 1) (by simp [Act.eval, Act.put]; done) (Sl.lit 37 4 #[.int .i64 l[i].1, .int .i64 0, .int .i64 0, .int .i64 l[i].2.2.2] 1 (by decide) rfl w6 (by decide)) rfl h1c n3 n4 (Nat.le_trans x6.size (by simp)) ?_
                         intro v7 w7 o7 y7
                         have x7 := (x6.alloc (.cells #[.int .i64 l[i].1, .int .i64 0, .int .i64 0, .int .i64 l[i].2.2.2] 37)).grown y7 (fun q hq hl => by have := own_fresh o6 q hq; exact absurd hl (Nat.not_lt.2 this)))
                      | (refine step_app rfl (.tmp 66) (.tmp 78) 23 rfl Tryz.underlying23 row_line (by decide) (v := v6) (by simp [Act.eval, Act.put]; done) o6 (sv := .slice (some ⟨wr.heap.size, 0, none⟩) 1 1) (by simp [Act.eval, Act.put]; done) ((Sl.lit 37 4 #[.int .i64 l[i].1, .int .i64 0, .int .i64 0, .int .i64 l[i].2.2.2] 1 (by decide) rfl wr.drew.drew.drew (by decide)).then xb) rfl h1c n3 n4 x6.size ?_
                         intro v7 w7 o7 y7
                         have x7 := x6.grown y7 (fun q hq hl => by have := own_fresh o6 q hq; exact absurd hl (Nat.not_lt.2 this)))
                      | (refine step_app rfl (.tmp 79) (.tmp 82) 23 rfl Tryz.underlying23 row_line (by decide) (v := v7) (by simp [Act.eval, Act.put]; done) o7 (sv := .slice (some ⟨g, P.length * 4, none⟩) 0 (oc - P.length)) (by simp [Act.eval, Act.put]; done) (hLdr.then x7) hlt2 ho2 n5 n6 x7.size ?_
                         intro v8 w8 o8 y8
                         have x8 := x7.grown y8 (fun q hq hl => by have := own_fresh o7 q hq; exact absurd hl (Nat.not_lt.2 this))))
                  all_goals
                    go_wp2_with fail
                    have hsn := funds_snoc (l := l.take i) (x := l[i]) (by rw [← HP.out]; exact HAT.out) hIx
                    rw [← HP.out, ← HT.out] at hsn
                    have hpin : pins P l[i].1 l[i].2.2.2 P.length = P ++ [(l[i].1, l[i].2.2.2)] ++ [] := by unfold pins; rw [dif_neg (by omega), List.take_length, List.drop_length]
                    have hfin : fundsL (l.take (i + 1)) = (P.map lnF) ++ [lnF (l[i].1, l[i].2.2.2)] ++ ([] : List Ln) := by
                      rw [fundsL, ← hsn, hpin, List.map_append, List.map_append]
                      rfl
                    have hzz : w.heap.size ≤ wr.heap.size := (hx.then hy).size
                    refine ⟨⟨i + 1, by omega, by go_num, ?_, (hx.then (hy.then hW)).then x8⟩, by simp [intOf]; omega⟩
                    unfold OwnL
                    rw [hfin]
                    have hlen : ((P.map lnF) ++ [lnF (l[i].1, l[i].2.2.2)] ++ ([] : List Ln)).length = 0 + P.length + 1 + 0 := by first | (simp; done) | (simp; omega)
                    rw [hlen, List.flatMap_append, List.flatMap_append]
                    refine own_rebase (base := wr.heap.size) ?_ (fun q hq => by have := own_fresh o8 q hq; exact Nat.le_trans hzz this)
                    simpa [lnF, lnC] using o8
    · have e : i = l.length := by omega
      subst e
      rw [List.take_length] at ho
      go_wp2_with fail
      go_ret
      exact ⟨_, rfl, ho, hx⟩
end Go.Proofs.YtbbfgbkbdhghbaaGreatDoor

set_option linter.unusedVariables false
set_option linter.unusedSimpArgs false
namespace Go.Proofs.YtbbfgbkbdhghbaaGreatDoor
open Go.RowKit
variable {w : World} {B s n : Nat} {was now : Tbl} {U : TypeId}

theorem r23_Equal {v : Value} {l : List Ln} (hl : Lns w U v l) (hn : l.length ≤ 1048576) (hI : ∀ x ∈ l, I64 x.2.2.2) :
    Calls Tryz.prog 17 #[v] w fun e w' => e = .returned (.bool (!(fundsL l).any badA)) ∧ Ext [] w w' := by
  have hF := r23_Funds hl hn hI
  obtain ⟨p, c, rfl, hc1, hc2⟩ := Sl.shape hl
  go_enter Tryz.func17, Tryz.ntmps17
  go_wp2_with fail
  refine hF.mono ?_
  rintro e w1 ⟨r1, rfl, o1, x1⟩
  have hr := OwnL.rd o1
  obtain ⟨L, hL⟩ : ∃ L, L = fundsL l := ⟨_, rfl⟩
  rw [← hL] at hr
  have HL := Lib.hid hL
  obtain ⟨p1, c1, rfl, q1, q2⟩ := Sl.shape hr
  clear hL o1 hF
  dsimp only
  go_wp2_with fail
  go_loopw [4] (fun x wr => ∃ i : Nat, i ≤ L.length ∧ x = .int .i64 i ∧ (L.take i).any badA = false ∧ Ext [] w1 wr) (fun x _ => L.length - (intOf x).toNat)
  case atStart => exact ⟨0, Nat.zero_le _, rfl, rfl, Ext.refl _ _⟩
  case round =>
    obtain ⟨i, hi, rfl, hall, hx⟩ := hrel
    have HA := Lib.hid hall
    clear hall
    by_cases hlt : i < L.length
    · obtain ⟨b, off, c', hpp, _⟩ := Sl.at hr (by omega)
      injection hpp with hpp _ hc'
      subst hpp; subst hc'
      obtain ⟨f1, f2, f3, f4⟩ := (hr.then hx).at hlt
      have HT := Lib.hid (List.take_succ_eq_append_getElem hlt)
      have hM : L[i] ∈ L := List.getElem_mem hlt
      cases hq : (L[i].2.2.2 != 0) with
      | true =>
        have HQ := Lib.hid hq
        go_wp2_with fail
        go_ret
        have : L.any badA = true := List.any_eq_true.2 ⟨_, hM, HQ.out⟩
        exact ⟨ret_bool (by rw [← HL.out, this]; rfl), x1.then hx⟩
      | false =>
        have HQ := Lib.hid hq
        go_wp2_with fail
        exact ⟨⟨i + 1, by omega, by go_num, by rw [HT.out, List.any_append, HA.out]; simp only [List.any_cons, List.any_nil, badA, HQ.out]; rfl, hx⟩, by simp [intOf]; omega⟩
    · have e : i = L.length := by omega
      subst e
      have hA := HA.out
      rw [List.take_length] at hA
      go_wp2_with fail
      go_ret
      exact ⟨ret_bool (by rw [← HL.out, hA]; rfl), x1.then hx⟩

theorem r23_Check (h : IsRef B w s n was now) {v : Value} {l : List Ln} (hl : Lns w U v l) :
    Calls Tryz.prog 12 #[.pointer (some ⟨s, 0, none⟩), v] w fun e w' => e = .returned (.int .i64 (checkL now l)) ∧ Ext [] w w' := by
  obtain ⟨p, c, rfl, g1, g2⟩ := Sl.shape hl
  by_cases hlen : l.length < 2 ∨ 6 < l.length
  · have HE := Lib.hid (show checkL now l = 1 by rw [checkL, if_pos hlen])
    rcases hlen with h1 | h1
    · have h1' : (l.length : Int) < 2 := by omega
      go_enter Tryz.func12, Tryz.ntmps12
      go_wp2_with fail
      go_ret
      exact ⟨ret_int HE.out.symm, Ext.refl _ _⟩
    · have h1' : ¬ (l.length : Int) < 2 := by omega
      have h2' : (6 : Int) < (l.length : Int) := by omega
      go_enter Tryz.func12, Tryz.ntmps12
      go_wp2_with fail
      go_ret
      exact ⟨ret_int HE.out.symm, Ext.refl _ _⟩
  · have h1' : ¬ (l.length : Int) < 2 := by omega
    have h2' : ¬ (6 : Int) < (l.length : Int) := by omega
    go_enter Tryz.func12, Tryz.ntmps12
    go_wp2_with fail
    have hsum : ∀ i, i ≤ 6 → i ≤ l.length → (l.take i).all rightL = true → -((i : Int) * 9007199254740992) ≤ sumA (l.take i) ∧ sumA (l.take i) ≤ (i : Int) * 9007199254740992 := by
      intro i
      induction i with
      | zero => intro _ _ _; simp [sumA]
      | succ i ih =>
        intro h6 hle hall
        have hlt : i < l.length := by omega
        rw [List.take_succ_eq_append_getElem hlt] at hall ⊢
        simp only [List.all_append, Bool.and_eq_true] at hall
        have ih := ih (by omega) (by omega) hall.1
        have hr : rightL l[i] = true := by simpa using hall.2
        simp only [rightL, Bool.and_eq_true, decide_eq_true_eq] at hr
        rw [sumA_snoc]
        omega
    go_loopw [5, 6] (fun t s wr => ∃ i : Nat, i ≤ l.length ∧ s = .int .i64 i ∧ (l.take i).all rightL = true ∧ t = .int .i64 (sumA (l.take i)) ∧ Ext [] w wr) (fun _ s _ => l.length - (intOf s).toNat)
    case atStart => exact ⟨0, Nat.zero_le _, rfl, rfl, rfl, Ext.refl _ _⟩
    case round =>
      obtain ⟨i, hi, rfl, hall, rfl, hx⟩ := hrel
      by_cases hlt : i < l.length
      · obtain ⟨b, off, c', hpp, _⟩ := Sl.at hl (by omega)
        injection hpp with hpp _ hc'
        subst hpp; subst hc'
        obtain ⟨f1, f2, f3, f4⟩ := (hl.then hx).at hlt
        have hT := List.take_succ_eq_append_getElem hlt
        have hR := fun W => r23_right l[i] W
        have hS := hsum i (by omega) hi hall
        have hS1 := hsum (i + 1) (by omega) (by omega)
        rw [hT] at hS1
        have e := sumA_snoc (l.take i) l[i]
        rw [e] at hS1
        have HT := Lib.hid hT
        have HS := Lib.hid e
        have HA := Lib.hid hall
        obtain ⟨hS1a, hS1b⟩ := hS
        simp only [lnV] at hR
        cases hq : rightL l[i] with
        | false =>
          rw [hq] at hR
          have HE := Lib.hid (show checkL now l = 1 by
            rw [checkL, if_neg hlen, if_pos]
            rw [List.all_eq_false]
            exact ⟨_, List.getElem_mem hlt, by simp [hq]⟩)
          clear hq hT e hS1 hall hsum
          go_wp2_with (go_at_call 37; refine (hR _).mono ?_; rintro e w2 ⟨rfl, x2⟩)
          go_ret
          exact ⟨ret_int HE.out.symm, hx.then x2⟩
        | true =>
          rw [hq] at hR
          have hS2 := hS1 (by rw [List.all_append, hall]; simp [hq])
          obtain ⟨hS2a, hS2b⟩ := hS2
          have HQ := Lib.hid hq
          clear hq hT e hS1 hall hsum
          go_wp2_with (go_at_call 37; refine (hR _).mono ?_; rintro e w2 ⟨rfl, x2⟩; have e3 := x2.cell (by simp) f4)
          go_roundw
          case rel => exact ⟨i + 1, by omega, by go_num, by rw [HT.out, List.all_append, HA.out]; simp [HQ.out], by rw [HT.out, HS.out], hx.then x2⟩
          case measure => simp [intOf]; omega
      · have e : i = l.length := by omega
        subst e
        rw [List.take_length] at hall
        simp only [List.take_length]
        go_wp2_with fail
        have HAl := Lib.hid hall
        clear hall hsum
        have h0 := hx
        clear hx
        go_loopw [7] (fun s wr => ∃ i : Nat, i ≤ l.length ∧ s = .int .i64 i ∧ (l.take i).all (hasL now) = true ∧ Ext [] w wr) (fun s _ => l.length - (intOf s).toNat)
        case atStart => exact ⟨0, Nat.zero_le _, rfl, rfl, h0⟩
        case round =>
          obtain ⟨i, hi, rfl, hal, hx⟩ := hrel
          by_cases hlt : i < l.length
          · obtain ⟨b, off, c', hpp, _⟩ := Sl.at hl (by omega)
            injection hpp with hpp _ hc'
            subst hpp; subst hc'
            obtain ⟨f1, f2, f3, f4⟩ := (hl.then hx).at hlt
            have HT := Lib.hid (List.take_succ_eq_append_getElem hlt)
            have HA := Lib.hid hal
            clear hal
            have hy := hx
            have hF := r21_Fund (h.then hy) l[i].1
            cases hq : (tget now (key 70 [l[i].1])).isSome with
            | false =>
              rw [hq] at hF
              have HE := Lib.hid (show checkL now l = 7 by
                rw [checkL, if_neg hlen, HAl.out, if_neg (by simp), if_pos]
                rw [List.all_eq_false]
                exact ⟨_, List.getElem_mem hlt, by simp [hasL, hq]⟩)
              clear hq
              go_wp2_with (go_at_call 31; refine hF.mono ?_; rintro e w2 ⟨rfl, x2⟩)
              go_ret
              exact ⟨ret_int HE.out.symm, hy.then x2⟩
            | true =>
              rw [hq] at hF
              have HQ := Lib.hid hq
              clear hq
              cases hq : (fixedO l[i].2.1 || (tget now (key 79 [l[i].2.1])).isSome) with
              | false =>
                have HE := Lib.hid (show checkL now l = 7 by
                  rw [checkL, if_neg hlen, HAl.out, if_neg (by simp), if_pos]
                  rw [List.all_eq_false]
                  exact ⟨_, List.getElem_mem hlt, by simp only [hasL, hq]; simp⟩)
                have HQ2 := Lib.hid hq
                clear hq
                go_wp2_with (first
                  | (go_at_call 31; refine hF.mono ?_; rintro e w2 ⟨rfl, x2⟩; have e3 := x2.cell (by simp) f2)
                  | (go_at_call 38; refine (r21_Object (h.then (hy.then x2)) l[i].2.1).mono ?_; rintro e w3 ⟨rfl, x3⟩; rw [HQ2.out]))
                go_ret
                exact ⟨ret_int HE.out.symm, (hy.then x2).then x3⟩
              | true =>
                have HQ2 := Lib.hid hq
                clear hq
                go_wp2_with (first
                  | (go_at_call 31; refine hF.mono ?_; rintro e w2 ⟨rfl, x2⟩; have e3 := x2.cell (by simp) f2)
                  | (go_at_call 38; refine (r21_Object (h.then (hy.then x2)) l[i].2.1).mono ?_; rintro e w3 ⟨rfl, x3⟩; rw [HQ2.out]))
                go_roundw
                case rel => exact ⟨i + 1, by omega, by go_num, by rw [HT.out, List.all_append, HA.out]; simp only [List.all_cons, List.all_nil, hasL, HQ.out, HQ2.out]; rfl, (hy.then x2).then x3⟩
                case measure => simp [intOf]; omega
          · have e : i = l.length := by omega
            subst e
            rw [List.take_length] at hal
            have HA := Lib.hid hal
            clear hal
            by_cases hz : sumA l = 0
            · have HE := Lib.hid (show checkL now l = 0 by rw [checkL, if_neg hlen, HAl.out, HA.out]; simp [hz])
              have hz' : (sumA l != 0) = false := by simp [hz]
              clear hz
              go_wp2_with fail
              go_ret
              exact ⟨ret_int HE.out.symm, hx⟩
            · have HE := Lib.hid (show checkL now l = 10 by rw [checkL, if_neg hlen, HAl.out, HA.out]; simp [hz])
              have hz' : (sumA l != 0) = true := by simp [hz]
              clear hz
              go_wp2_with fail
              go_ret
              exact ⟨ret_int HE.out.symm, hx⟩
end Go.Proofs.YtbbfgbkbdhghbaaGreatDoor

set_option linter.unusedVariables false
set_option linter.unusedSimpArgs false
namespace Go.Proofs.YtbbfgbkbdhghbaaGreatDoor
open Go.RowKit Go.ChangeShapes Go.WideShapes

section
variable {H : Type} {enc : TypeId × Value → H} {w : World} {base : Nat} {spare : Nat → Bool} {held : Bool}
theorem open_line {f : Nat} {cs : List Value} {y : DataW H × List MemPlace} (hl : cs.length = 4) (h : DataW.trod enc Tryz.prog w base spare held f 37 cs = some y) : ∃ x : Ln, cs = lnC x ∧ I64 x.2.2.2 := by
  have c1 : Tryz.prog.cellsOf 3 = 1 := by kernel_rfl
  obtain ⟨n, hf⟩ := open_fields Tryz.underlying37 h
  obtain ⟨a, b, c, d, rfl⟩ := len4 hl
  obtain ⟨_, h0⟩ := open_field1 hf 0 rfl c1 rfl
  obtain ⟨_, h1⟩ := open_field1 hf 1 rfl c1 rfl
  obtain ⟨_, h2⟩ := open_field1 hf 2 rfl c1 rfl
  obtain ⟨_, h3⟩ := open_field1 hf 3 rfl c1 rfl
  obtain ⟨x0, rfl, _⟩ := open_int1 Tryz.underlying3 h0
  obtain ⟨x1, rfl, _⟩ := open_int1 Tryz.underlying3 h1
  obtain ⟨x2, rfl, _⟩ := open_int1 Tryz.underlying3 h2
  obtain ⟨x3, rfl, hx3⟩ := open_int1 Tryz.underlying3 h3
  exact ⟨(x0, x1, x2, x3), rfl, hx3⟩
theorem open_lines {v : Value} {d : DataW H} {p : List MemPlace} (hv : v.cells.toList = [v]) (h : DataW.Trod enc Tryz.prog w base spare held 23 v d p) : ∃ (l : List Ln) (U : TypeId), Lns w U v l ∧ ∀ x ∈ l, I64 x.2.2.2 := by
  obtain ⟨f, h⟩ := h
  rw [hv] at h
  obtain ⟨css, U, f, _, h1, h2⟩ := open_rows 4 Tryz.underlying23 (by kernel_rfl) (by decide) h
  have hb : ∀ css : List (List Value), (∀ cs ∈ css, cs.length = 4 ∧ ∃ y, DataW.trod enc Tryz.prog w base spare held f 37 cs = some y) → ∃ l : List Ln, css.flatten = l.flatMap lnC ∧ l.length = css.length ∧ ∀ x ∈ l, I64 x.2.2.2 := by
    intro css
    induction css with
    | nil => intro _; exact ⟨[], rfl, rfl, by simp⟩
    | cons c css ih =>
      intro h
      obtain ⟨l, e1, e2, e3⟩ := ih (fun cs hcs => h cs (.tail _ hcs))
      obtain ⟨hl, y, hy⟩ := h c (.head _)
      obtain ⟨x, rfl, hx⟩ := open_line hl hy
      exact ⟨x :: l, by rw [List.flatten_cons, e1, List.flatMap_cons], by simp [e2], fun z hz => by
        rcases List.mem_cons.1 hz with rfl | hz
        · exact hx
        · exact e3 z hz⟩
  obtain ⟨l, e1, e2, e3⟩ := hb css h2
  exact ⟨l, U, by unfold Lns; rw [← e1, e2]; exact h1, e3⟩
end
end Go.Proofs.YtbbfgbkbdhghbaaGreatDoor

set_option linter.unusedVariables false
set_option linter.unusedSimpArgs false
namespace Go.Proofs.YtbbfgbkbdhghbaaGreatDoor
open Go.RowKit
variable {U U2 : TypeId}

set_option maxHeartbeats 4000000 in
theorem law_LinesCheck {w : World} {fv v : Value} {fs : List Int} {l : List Ln} (hf : Sl w U2 fv fs.length (fs.map iv)) (hl : Lns w U v l) (hI : ∀ x ∈ l, I64 x.2.2.2) :
    Calls Tryz.prog 3 #[fv, v] w fun e w' => e = .returned (.bool true) ∧ Ext [] w w' := by
  have hPl := plain_Lines hl
  obtain ⟨p, c, rfl, g1, g2⟩ := Sl.shape hl
  obtain ⟨p2, c2, rfl, g3, g4⟩ := Sl.shape hf
  by_cases h30 : (l.length : Int) ≤ 30
  · rw [decide_eq_true h30] at hPl
    by_cases h20 : (20 : Int) < (fs.length : Int)
    · go_enter Tryz.func3, Tryz.ntmps3
      go_wp2_with (first
        | (go_at_call 5; refine hPl.mono ?_; rintro e w1 ⟨rfl, rfl⟩)
        | (go_at_call 6; refine (law23_awake w).mono ?_; rintro e w1 ⟨rfl, x1⟩))
      go_ret
      exact ⟨rfl, x1⟩
    · go_enter Tryz.func3, Tryz.ntmps3
      go_wp2_with (go_at_call 5; refine hPl.mono ?_; rintro e w1 ⟨rfl, rfl⟩)
      refine (view_New w).mono ?_
      rintro e w1 ⟨V, rfl, hv, x1, hV⟩
      dsimp only
      go_wp2_with fail
      refine (ref_New (B := w.heap.size) w1 x1.size).mono ?_
      rintro e w2 ⟨s, rfl, hr, x2⟩
      have hv2 := hv.then x2
      have x12 := x1.then x2
      clear hv x1 x2
      dsimp only
      go_wp2_with fail
      have hlen : fs.length ≤ 20 := by omega
      go_loopw [22] (fun y wr => ∃ (i n : Nat) (now : Tbl), y = .int .i64 i ∧ i ≤ fs.length ∧ n ≤ i ∧ IsView wr V n [] now ∧ IsRef w.heap.size wr s n [] now ∧ Ext [] w wr) (fun y _ => fs.length - (intOf y).toNat)
      case atStart => exact ⟨0, 0, [], rfl, Nat.zero_le _, Nat.le_refl _, hv2, hr, x12⟩
      case round =>
        obtain ⟨i, n, now, rfl, hi, hn, hv, hr, hx⟩ := hrel
        have e0 : str [97] = ⟨#[97]⟩ := rfl
        by_cases hlt : i < fs.length
        · obtain ⟨b, off, c', hpp, hrow⟩ := hf.at (by omega)
          injection hpp with hpp _ hc'
          subst hpp; subst hc'
          have hcell := (hrow.ext hx (by simp)).cell (i := i) (v := .int .i64 fs[i]) (by simp [hlt, iv])
          have hN := chart_NewFund hv (by omega) fs[i] [97] (by decide)
          rw [e0] at hN
          clear hPl
          go_wp2_with fail
          refine hN.mono ?_
          rintro e w3 ⟨rfl, hv3, x3⟩
          have y3 := old_view hx hV x3
          have hR := r21_NewFund (hr.vext hv x3) (by omega) fs[i] [97] (by decide)
          rw [e0] at hR
          dsimp only
          go_wp2_with fail
          refine hR.mono ?_
          rintro e w4 ⟨rfl, hr4, x4⟩
          have hv4 := hv3.rext x4
          have y4 := x4.old y3
          dsimp only
          go_wp2_with fail
          exact ⟨⟨i + 1, n + 1, _, by go_num, by omega, by omega, hv4, hr4, y4⟩, by simp [intOf]; omega⟩
        · have e : i = fs.length := by omega
          subst e
          have hll : l.length ≤ 1048576 := by omega
          have hC := lines_Check hv (hl.then hx)
          clear hPl
          go_wp2_with fail
          refine hC.mono ?_
          rintro e w3 ⟨rfl, x3⟩
          have hR := r23_Check (hr.then x3) (hl.then (hx.then x3))
          have y3 := hx.then x3
          dsimp only
          go_wp2_with fail
          refine hR.mono ?_
          rintro e w4 ⟨rfl, x4⟩
          have y4 := y3.then x4
          dsimp only
          go_wp2_with fail
          refine (lines_Funds (hl.then y4) hll).mono ?_
          rintro e w5 ⟨r5, rfl, o5, x5⟩
          have y5 := y4.then x5
          dsimp only
          go_wp2_with fail
          refine (r23_Funds (hl.then y5) hll hI).mono ?_
          rintro e w6 ⟨r6, rfl, o6, x6⟩
          have y6 := y5.then x6
          have hEq := lines_EqualS ((OwnL.rd o5).then x6) (OwnL.rd o6)
          rw [beq_self_eq_true] at hEq
          dsimp only
          go_wp2_with fail
          refine hEq.mono ?_
          rintro e w7 ⟨rfl, x7⟩
          have y7 := y6.then x7
          dsimp only
          go_wp2_with fail
          refine (lines_Equal (hl.then y7) hll).mono ?_
          rintro e w8 ⟨rfl, x8⟩
          have y8 := y7.then x8
          have hE2 := r23_Equal (hl.then y8) hll hI
          generalize (!(fundsL l).any badA) = q at hE2 ⊢
          dsimp only
          go_wp2_with fail
          refine hE2.mono ?_
          rintro e w9 ⟨rfl, x9⟩
          have y9 := y8.then x9
          dsimp only
          go_wp2_with (go_at_call 6; refine (law23_awake w9).mono ?_; rintro e w10 ⟨rfl, x10⟩)
          go_ret
          exact ⟨rfl, y9.then x10⟩
  · rw [decide_eq_false h30] at hPl
    go_enter Tryz.func3, Tryz.ntmps3
    go_wp2_with (first
      | (go_at_call 5; refine hPl.mono ?_; rintro e w1 ⟨rfl, rfl⟩)
      | (go_at_call 6; refine (law23_awake w).mono ?_; rintro e w1 ⟨rfl, x1⟩))
    go_ret
    exact ⟨rfl, x1⟩
end Go.Proofs.YtbbfgbkbdhghbaaGreatDoor
