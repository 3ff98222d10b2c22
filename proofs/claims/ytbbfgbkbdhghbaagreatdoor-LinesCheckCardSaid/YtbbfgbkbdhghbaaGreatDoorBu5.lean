/-
  The document's table: Put.
-/
import Derived.Test.YtbbfgbkbdhghbaaGreatDoorBu4
import Derived.Sort.Walk0
set_option linter.unusedVariables false
set_option linter.unusedSimpArgs false
namespace Go.Proofs.YtbbfgbkbdhghbaaGreatDoor
open Go.RowKit

theorem tput_at {T : Tbl} {k v : Bytes} : ∀ {i : Nat}, i ≤ T.length → (∀ j (hj : j < i) (hl : j < T.length), T[j].1 < k) → (∀ (h : i < T.length), ¬ T[i].1 < k) →
    tput T k v = if h : i < T.length then (if T[i].1 = k then T.set i (k, v) else T.take i ++ (k, v) :: T.drop i) else T ++ [(k, v)] := by
  induction T with
  | nil => intro i hi _ _; simp [tput]
  | cons p T ih =>
    intro i hi h1 h2
    cases i with
    | zero =>
      have := h2 (by simp)
      simp only [List.getElem_cons_zero] at this
      simp only [tput, this, if_false]
      by_cases e : p.1 = k <;> simp [e]
    | succ i =>
      have h0 := h1 0 (by omega) (by simp)
      simp only [List.getElem_cons_zero] at h0
      simp only [tput, h0, if_true]
      rw [ih (i := i) (by simpa using hi) (fun j hj hl => by have := h1 (j + 1) (by omega) (by simpa using hl); simpa using this) (fun h => by have := h2 (by simpa using h); simpa using this)]
      by_cases hlt : i < T.length
      · have : i + 1 < (p :: T).length := by simpa using hlt
        simp only [hlt, this, dif_pos, List.getElem_cons_succ]
        by_cases e : T[i].1 = k <;> simp [e]
      · have : ¬ i + 1 < (p :: T).length := by simpa using hlt
        simp only [hlt, this, dif_neg, not_false_eq_true]
        rfl

theorem elem_pairs : Tryz.prog.elem 51 = 95 := by kernel_rfl
theorem slice_to (W : World) (p : Option Addr) (n c i : Nat) (hi : i ≤ c) : (Instr.sliceAt 51 (.slice p n c) none (some (.int .i64 i)) none).run Tryz.prog W = .ok (.slice p i c) W := by
  have hu : Tryz.prog.underlying 51 = some (.slice (Tryz.prog.elem 51)) := by rw [elem_pairs]; exact Tryz.underlying51
  rw [run_sliceAt_slice (h := hu), run_slice_h (ht := hu) (h0 := by omega) (h2 := by omega), elem_pairs, Tryz.sizeOf95]
  simp only [Result.andThen, sliced, Int.toNat_natCast, Nat.sub_zero, Nat.zero_mul]
  cases p with
  | none => simp
  | some a =>
    simp
    intro _
    unfold Addr.add
    split <;> simp_all
theorem slice_from (W : World) (b off n c i : Nat) (hi : i ≤ n) (hn : n ≤ c) (hc : c ≠ i) : (Instr.sliceAt 51 (.slice (some ⟨b, off, none⟩) n c) (some (.int .i64 i)) none none).run Tryz.prog W = .ok (.slice (some ⟨b, off + i * 2, none⟩) (n - i) (c - i)) W := by
  have hu : Tryz.prog.underlying 51 = some (.slice (Tryz.prog.elem 51)) := by rw [elem_pairs]; exact Tryz.underlying51
  rw [run_sliceAt_slice (h := hu), run_slice_l (ht := hu) (h0 := by omega) (h1 := by omega), elem_pairs, Tryz.sizeOf95]
  simp only [Result.andThen, sliced, Int.toNat_natCast, hc, if_false, Option.map_some, add_off]

theorem slice_end (W : World) (p : Option Addr) (n c : Nat) (hn : n ≤ c) : (Instr.sliceAt 51 (.slice p n c) (some (.int .i64 n)) none none).run Tryz.prog W = .ok (.slice (if c = n then p else p.map (·.add (n * 2))) 0 (c - n)) W := by
  have hu : Tryz.prog.underlying 51 = some (.slice (Tryz.prog.elem 51)) := by rw [elem_pairs]; exact Tryz.underlying51
  rw [run_sliceAt_slice (h := hu), run_slice_l (ht := hu) (h0 := by omega) (h1 := by omega), elem_pairs, Tryz.sizeOf95]
  simp only [Result.andThen, sliced, Int.toNat_natCast, Nat.sub_self]
theorem cells2_take (hs : List (Value × Value)) (i : Nat) : (cells2 hs).take (i * 2) = cells2 (hs.take i) := by
  rcases Nat.lt_or_ge i hs.length with h | h
  · conv => lhs; rw [← List.take_append_drop i hs, cells2_append]
    rw [List.take_left']
    rw [cells2_length, List.length_take]; omega
  · rw [List.take_of_length_le h, List.take_of_length_le (by rw [cells2_length]; omega)]
theorem cells2_drop (hs : List (Value × Value)) (i : Nat) : (cells2 hs).drop (i * 2) = cells2 (hs.drop i) := by
  rcases Nat.lt_or_ge i hs.length with h | h
  · conv => lhs; rw [← List.take_append_drop i hs, cells2_append]
    rw [List.drop_left']
    rw [cells2_length, List.length_take]; omega
  · rw [List.drop_of_length_le h, List.drop_of_length_le (by rw [cells2_length]; omega)]
    rfl
theorem cells2_one {w : World} {hs : List (Value × Value)} {l : Tbl} (h : Rel2 (PairH w) hs l) : ∀ u ∈ cells2 hs, u.oneCell' = true := by
  refine Rel2.ind (P := fun hs _ => ∀ u ∈ cells2 hs, u.oneCell' = true) (by simp [cells2]) ?_ h
  intro p q es xs hp _ ih u hu
  obtain ⟨_, _, e1, _, _⟩ := hp.1.shape
  obtain ⟨_, _, e2, _, _⟩ := hp.2.shape
  simp only [cells2, List.flatMap_cons, List.cons_append, List.nil_append, List.mem_cons] at hu ih
  rcases hu with rfl | rfl | hu
  · rw [e1]; rfl
  · rw [e2]; rfl
  · exact ih u hu
theorem RdP.take {w : World} {b off n c i : Nat} {hs : List (Value × Value)} {l : Tbl} (h : RdP w (.slice (some ⟨b, off, none⟩) n c) hs l) (hi : i ≤ l.length) : Sl w 95 (.slice (some ⟨b, off, none⟩) i c) i (cells2 (hs.take i)) := by
  obtain ⟨⟨p', c', e, h1, h2, h3⟩, hrel⟩ := h
  injection e with e1 e2 e3
  subst e1; subst e2; subst e3
  have hl := hrel.length
  refine ⟨_, c, rfl, by omega, h2, ?_⟩
  rcases Nat.eq_zero_or_pos i with rfl | hp
  · left; simp [cells2]
  · right
    rcases h3 with ⟨h3, _⟩ | ⟨h3, b', off', hpp, hr⟩
    · omega
    · injection hpp with hpp
      injection hpp with q1 q2
      subst q1; subst q2
      refine ⟨hp, _, _, rfl, ?_⟩
      have := hr.sub 0 (i * 2) (by rw [cells2_length]; omega)
      simpa [cells2_take] using this
theorem RdP.drop {w : World} {b off n c i : Nat} {hs : List (Value × Value)} {l : Tbl} (h : RdP w (.slice (some ⟨b, off, none⟩) n c) hs l) (hi : i ≤ l.length) : Sl w 95 (.slice (some ⟨b, off + i * 2, none⟩) (n - i) (c - i)) (n - i) (cells2 (hs.drop i)) := by
  obtain ⟨⟨p', c', e, h1, h2, h3⟩, hrel⟩ := h
  injection e with e1 e2 e3
  subst e1; subst e2; subst e3
  have hl := hrel.length
  refine ⟨_, _, rfl, by omega, by omega, ?_⟩
  rcases Nat.eq_zero_or_pos (l.length - i) with h0 | hp
  · left
    refine ⟨h0, ?_⟩
    rw [List.drop_of_length_le (by omega)]; rfl
  · right
    rcases h3 with ⟨h3, _⟩ | ⟨h3, b', off', hpp, hr⟩
    · omega
    · injection hpp with hpp
      injection hpp with q1 q2
      subst q1; subst q2
      refine ⟨hp, _, _, rfl, ?_⟩
      have := hr.sub (i * 2) ((l.length - i) * 2) (by rw [cells2_length]; omega)
      rw [cells2_drop, List.take_of_length_le (by rw [cells2_length, List.length_drop]; omega)] at this
      exact this

theorem Rel2.set {α β : Type} {R : α → β → Prop} {es : List α} {xs : List β} {p : α} {q : β} (h : Rel2 R es xs) (hp : R p q) : ∀ i, Rel2 R (es.set i p) (xs.set i q) :=
  Rel2.ind (P := fun es xs => ∀ i, Rel2 R (es.set i p) (xs.set i q)) (fun i => by simp [Rel2]) (fun _ _ _ _ h1 h2 ih i => by cases i with
    | zero => exact Rel2.cons hp h2
    | succ i => exact Rel2.cons h1 (ih i)) h

set_option maxHeartbeats 4000000 in
theorem tab_Put {U1 U2 : TypeId} {w : World} {b : Nat} {T : Tbl} (h : IsTab w b T) (kv vv : Value) (k v : Bytes) (hk : Bs U1 w kv k) (hv : Bs U2 w vv v) (hT : T.length ≤ 1099511627776) (hkl : k.length ≤ 4294967296) (hvl : v.length ≤ 4294967296) :
    Calls Tryz.prog 55 #[.pointer (some ⟨b, 0, none⟩), kv, vv] w fun e w' => e = .returned (.tuple #[]) ∧ IsTab w' b (tput T k v) ∧ Ext [b] w w' := by
  obtain ⟨tv, hs, hb, hrd⟩ := h
  have hbl : b < w.heap.size := (Array.getElem?_eq_some_iff.1 hb).1
  have c0 : w.cell? ⟨b, 0, none⟩ = some tv := by simp [World.cell?, hb]
  obtain ⟨vp, vc, rfl, hc1, hc2⟩ := hrd.1.shape
  have HB := Lib.hid hb
  clear hb
  go_enter Tryz.func55, Tryz.ntmps55
  iterate 60 (first | at_builtin | go_step | skip)
  with_reducible refine app0 (base := w.heap.size) Tryz.underlying63 row_u8 (by decide) hk.sl (by simp) (bv_one k) ?_ ?_ ?_ ?_ ?_
  omega
  omega
  exact Nat.le_refl _
  rfl
  intro r1 w1 ho1 x1 hf1
  iterate 60 (first | at_builtin | go_step | skip)
  with_reducible refine app0 (base := w.heap.size) Tryz.underlying63 row_u8 (by decide) (hv.then x1).sl (by simp) (bv_one v) ?_ ?_ ?_ ?_ ?_
  omega
  omega
  exact x1.size
  rfl
  intro r2 w2 ho2 x2 hf2
  have hr1 : NewB w w2 r1 k := own_then ho1 x2
  have hr2 : NewB w w2 r2 v := ho2
  obtain ⟨p1, c1, rfl, _, _⟩ := hr1.bs.sl.shape
  obtain ⟨p2, c2, rfl, _, _⟩ := hr2.bs.sl.shape
  have x3 := (Ext.refl [] w2).alloc (.cells #[.slice p1 k.length c1, .slice p2 v.length c2] 95)
  have xw := (x1.then x2).then x3
  have s0 : (w2.alloc (.cells #[.slice p1 k.length c1, .slice p2 v.length c2] 95)).cell? ⟨w2.heap.size, 0, none⟩ = some (.slice p1 k.length c1) := by simp only [World.cell?, heap_alloc_new]; rfl
  have s1 : (w2.alloc (.cells #[.slice p1 k.length c1, .slice p2 v.length c2] 95)).cell? ⟨w2.heap.size, 1, none⟩ = some (.slice p2 v.length c2) := by simp only [World.cell?, heap_alloc_new]; rfl
  have hpr : PairH (w2.alloc (.cells #[.slice p1 k.length c1, .slice p2 v.length c2] 95)) (.slice p1 k.length c1, .slice p2 v.length c2) (k, v) := ⟨hr1.bs.then x3, hr2.bs.then x3⟩
  iterate 60 (first | at_builtin | go_step | skip)
  generalize (w2.alloc (.cells #[.slice p1 k.length c1, .slice p2 v.length c2] 95)) = w3 at xw s0 s1 hpr ⊢
  clear x3 x2 x1 ho1 ho2 hf1 hf2 hr1 hr2
  go_loopw [7] (fun s wr => ∃ i : Nat, i ≤ T.length ∧ s = .int .i64 i ∧ (∀ j (hj : j < i) (hl : j < T.length), T[j].1 < k) ∧ Ext [] w3 wr) (fun s _ => T.length - (intOf s).toNat)
  case atStart => exact ⟨0, Nat.zero_le _, rfl, by simp, Ext.refl _ _⟩
  case round =>
    obtain ⟨i, hi, rfl, hall, hx3⟩ := hrel
    have hx := xw.then hx3
    have HA := Lib.hid hall
    clear hall
    have e0 := hx.cell (by simp) c0
    have d0 := hx.drew.cell (by simp) c0
    have hdr : Ext [] wr wr.drew := (Ext.refl [] wr).drew
    have hstr := run_str (P := Tryz.prog) Tryz.underlying63 Tryz.underlying5 Tryz.underlying9 (hk.then hx.drew)
    by_cases hlt : i < T.length
    · obtain ⟨bb, off, c', hpp, _⟩ := hrd.1.at (by omega)
      injection hpp with hpp _ hc'
      subst hpp; subst hc'
      obtain ⟨k1, v1, _, g1, g2, hk1, hv1⟩ := (hrd.then hx.drew).at hlt
      obtain ⟨kp, kc, rfl, hkc1, hkc2⟩ := hk1.shape
      obtain ⟨vp1, vc1, rfl, _, _⟩ := hv1.shape
      have hstr1 := run_str (P := Tryz.prog) Tryz.underlying63 Tryz.underlying5 Tryz.underlying9 hk1
      have hx2 := hx.drew.drew
      have d2 := hx2.cell (by simp) c0
      have hdr2 : Ext [] wr.drew wr.drew.drew := (Ext.refl [] _).drew
      have g3 := hdr2.cell (by simp) g1
      have g4 := hdr2.cell (by simp) g2
      have hstr2 := run_str (P := Tryz.prog) Tryz.underlying63 Tryz.underlying5 Tryz.underlying9 (hk.then hx2)
      have hstr3 := run_str (P := Tryz.prog) Tryz.underlying63 Tryz.underlying5 Tryz.underlying9 (hk1.then hdr2)
      cases hq : Op.bytesLess T[i].1 k with
      | true =>
        have HQ := Lib.hid (show T[i].1 < k by rw [bytesLess_eq] at hq; simpa using hq)
        iterate 120 (first | at_builtin | go_step | skip)
        go_region
        all_goals
          iterate 120 (first | at_builtin | go_step | skip)
          refine ⟨⟨i + 1, by omega, by go_num, fun j hj hl => ?_, hx3.drew⟩, by simp [intOf]; omega⟩
          rcases Nat.lt_succ_iff_lt_or_eq.1 hj with hj | rfl
          · exact HA.out j hj hl
          · exact HQ.out
      | false =>
        have HQ := Lib.hid (show ¬ T[i].1 < k by rw [bytesLess_eq] at hq; simpa using hq)
        cases he : (T[i].1 == k) with
        | true =>
          iterate 120 (first | at_builtin | go_step | skip)
          go_region
          all_goals
            iterate 120 (first | at_builtin | go_step | skip)
            go_region
            all_goals
              have hrdW := hrd.then hx2
              have hprW : PairH wr.drew.drew (.slice p1 k.length c1, .slice p2 v.length c2) (k, v) := hpr.ext hx3.drew.drew (by simp)
              have t0 := hx3.drew.drew.cell (by simp) s0
              have t1 := hx3.drew.drew.cell (by simp) s1
              have hbW : wr.drew.drew.heap[b]? = some (.cells #[.slice (some ⟨bb, off, none⟩) T.length vc] 54 (0, 0)) := (hx2.block b hbl (by simp)).trans HB.out
              obtain ⟨hrdW1, hrdW2⟩ := hrdW
              have hone := cells2_one hrdW2
              have hlen2 : (cells2 hs).length = T.length * 2 := by rw [cells2_length]; have := hrdW2.length; omega
              have HPUT := Lib.hid (show tput T k v = T.set i (k, v) by rw [tput_at hi HA.out (fun _ => HQ.out), dif_pos hlt, if_pos (by simpa using he)])
              have hWs := hx2.size
              iterate 120 (first | at_builtin | go_step | skip)
              with_reducible refine app0 (base := wr.drew.drew.heap.size) Tryz.underlying51 row_pair (by decide) hrdW1 hlen2 hone ?_ ?_ ?_ ?_ ?_
              omega
              omega
              exact Nat.le_refl _
              rfl
              intro r8 w5 ho5 hx5 hf5
              obtain ⟨bg, og, cg, rfl, hrow5⟩ := (Sl.of_own ho5 (by decide)).at (by omega)
              have hog : og = 0 := by
                obtain ⟨_, ⟨h0, _⟩ | ⟨g', cap', cur, h0, _⟩⟩ := ho5
                · cases h0
                · cases h0; rfl
              subst hog
              have hbg : wr.drew.drew.heap.size ≤ bg := own_fresh ho5 bg rfl
              have u0 := hx5.cell (by simp) t0
              have u1 := hx5.cell (by simp) t1
              have hil : i < hs.length := by have := hrdW2.length; omega
              obtain ⟨f1, f2⟩ := cells2_get hs i hs[i] (by simp [hil])
              have f1 := hrow5.cell f1
              have f2 := hrow5.cell f2
              rw [Nat.zero_add, Nat.mul_comm] at f1 f2
              obtain ⟨cur, hcu, _⟩ := own_cells ho5
              have z1 : w5.frozen? ⟨bg, i * 2, none⟩ = false := frozen_of_row w5 bg _ _ _ hcu
              have z2 : w5.frozen? ⟨bg, i * 2 + 1, none⟩ = false := frozen_of_row w5 bg _ _ _ hcu
              have hset := own_set2 ho5 (i := i) hlt (.slice p1 k.length c1) (.slice p2 v.length c2)
              have hb5 : w5.heap[b]? = some (.cells #[.slice (some ⟨bb, off, none⟩) T.length vc] 54 (0, 0)) := (hx5.block b (by omega) (by simp)).trans hbW
              have xs5 : Ext [bg] w5 ((w5.setCell ⟨bg, i * 2, none⟩ (.slice p1 k.length c1)).setCell ⟨bg, i * 2 + 1, none⟩ (.slice p2 v.length c2)) := ((Ext.refl [bg] w5).setCell (fun _ => by simp) _).setCell (fun _ => by simp) _
              have hw5 := hx5.size
              have hb6 : ((w5.setCell ⟨bg, i * 2, none⟩ (.slice p1 k.length c1)).setCell ⟨bg, i * 2 + 1, none⟩ (.slice p2 v.length c2)).heap[b]? = some (.cells #[.slice (some ⟨bb, off, none⟩) T.length vc] 54 (0, 0)) := (xs5.block b (by omega) (by simp; omega)).trans hb5
              have zb6 := frozen_of_row _ b 0 _ _ hb6
              have cb6 : ((w5.setCell ⟨bg, i * 2, none⟩ (.slice p1 k.length c1)).setCell ⟨bg, i * 2 + 1, none⟩ (.slice p2 v.length c2)).cell? ⟨b, 0, none⟩ = some (.slice (some ⟨bb, off, none⟩) T.length vc) := by rw [World.cell?, hb6]; rfl
              have cb5 : w5.cell? ⟨b, 0, none⟩ = some (.slice (some ⟨bb, off, none⟩) T.length vc) := by rw [World.cell?, hb5]; rfl
              have hbt : ∀ q ∈ [bg], ∀ cs fr, w5.heap[q]? ≠ some (.cells cs 5 fr) := fun q hq => own_other (U := 5) ho5 (by decide) q (by simpa [Value.ownBlock] using hq)
              have hrel6 : Rel2 (PairH ((w5.setCell ⟨bg, i * 2, none⟩ (.slice p1 k.length c1)).setCell ⟨bg, i * 2 + 1, none⟩ (.slice p2 v.length c2))) (hs.set i (.slice p1 k.length c1, .slice p2 v.length c2)) (tput T k v) := by
                rw [HPUT.out]
                exact ((hrdW2.set hprW i).imp fun _ _ q => q.ext hx5 (by simp)).imp fun _ _ q => q.ext xs5 hbt
              have hlen6 : (tput T k v).length = T.length := by rw [HPUT.out]; simp
              obtain ⟨q1, q2⟩ := IsTab.set hb6 (show RdP _ (.slice (some ⟨bg, 0, none⟩) T.length cg) _ (tput T k v) from ⟨by rw [hlen6]; exact Sl.of_own hset (by decide), hrel6⟩)
              have HB6 := Lib.hid hb6
              have HB5 := Lib.hid hb5
              have HBW := Lib.hid hbW
              clear hcu hrow5 hb6 hb5 hbW
              iterate 120 (first | at_builtin | go_step | skip)
              refine bodyPost_ret (results_none rfl _ _ _) rfl ?_
              exact ⟨rfl, q1, (((hx2.then hx5).mono (M' := [b]) (by simp)).trans xs5 (fun x hx hlt' => by simp at hx; omega)).same q2⟩
        | false =>
          have hxW := hx2
          have hrdW := hrd.then hx2
          have hprW : PairH wr.drew.drew (.slice p1 k.length c1, .slice p2 v.length c2) (k, v) := hpr.ext hx3.drew.drew (by simp)
          have t0 := hx3.drew.drew.cell (by simp) s0
          have t1 := hx3.drew.drew.cell (by simp) s1
          have hbW : wr.drew.drew.heap[b]? = some (.cells #[.slice (some ⟨bb, off, none⟩) T.length vc] 54 (0, 0)) := (hx2.block b hbl (by simp)).trans HB.out
          iterate 120 (first | at_builtin | go_step | skip)
          go_region
          all_goals
            iterate 120 (first | at_builtin | go_step | skip)
            go_region
            all_goals
              iterate 120 (first | at_builtin | go_step | skip)
              have cW := d2
              clear hstr hstr1 hstr2 hstr3 d2 d0 e0 g1 g2 g3 g4
              generalize wr.drew.drew = W at *
              have HPUT := Lib.hid (show tput T k v = T.take i ++ (k, v) :: T.drop i by rw [tput_at hi HA.out (fun _ => HQ.out), dif_pos hlt, if_neg (by simpa using he)])
              obtain ⟨p7, r7, hS7⟩ : ∃ p7, (∀ W', (Instr.sliceAt 51 (.slice (some ⟨bb, off, none⟩) T.length vc) none (some (.int .i64 i)) none).run Tryz.prog W' = .ok (.slice p7 i vc) W') ∧ Sl W 95 (.slice p7 i vc) i (cells2 (hs.take i)) :=
                ⟨_, fun W' => slice_to W' _ _ _ _ (by omega), hrdW.take (by omega)⟩
              obtain ⟨p8, r8, hS8⟩ : ∃ p8, (∀ W', (Instr.sliceAt 51 (.slice (some ⟨bb, off, none⟩) T.length vc) (some (.int .i64 i)) none none).run Tryz.prog W' = .ok (.slice p8 (T.length - i) (vc - i)) W') ∧ Sl W 95 (.slice p8 (T.length - i) (vc - i)) (T.length - i) (cells2 (hs.drop i)) :=
                ⟨_, fun W' => slice_from W' _ _ _ _ _ (by omega) (by omega) (by omega), hrdW.drop (by omega)⟩
              generalize (some (⟨bb, off, none⟩ : Addr)) = vp at *
              generalize hA : (⟨_, _⟩ : Act) = A
              have ha0 : A.eval (.tmp 0) = .pointer (some ⟨b, 0, none⟩) := by subst hA; rfl
              have ha6 : A.eval (.tmp 6) = .pointer (some ⟨w2.heap.size, 0, none⟩) := by subst hA; rfl
              have ha7 : A.eval (.tmp 7) = .int .i64 i := by subst hA; rfl
              have has : A.tmps.size = 91 := by subst hA; rfl
              have had : A.defers = [] := by subst hA; rfl
              clear hA
              obtain ⟨tab, htab⟩ : ∃ tab : List (Nat × Nat × Value), tab = [(0, 71, .pointer (some ⟨b, 0, none⟩)), (1, 72, .pointer (some ⟨b, 0, none⟩)), (2, 73, .pointer (some ⟨b, 0, none⟩)), (3, 74, .pointer (some ⟨b, 0, none⟩)),
                (4, 75, .slice vp T.length vc), (5, 76, .int .i64 i), (6, 77, .slice p7 i vc), (8, 79, .agg #[.slice p1 k.length c1, .slice p2 v.length c2]),
                (11, 82, .pointer (some ⟨b, 0, none⟩)), (12, 83, .pointer (some ⟨b, 0, none⟩)), (13, 84, .pointer (some ⟨b, 0, none⟩)), (14, 85, .slice vp T.length vc), (15, 86, .int .i64 i),
                (16, 87, .slice p8 (T.length - i) (vc - i)), (18, 89, .pointer (some ⟨b, 0, none⟩)), (19, 90, .pointer (some ⟨b, 0, none⟩))] := ⟨_, rfl⟩
              have HTAB := Lib.hid htab
              clear htab
              refine region_rely (by kernel_rfl) (fun L a w' => (a.tmps.size = 91 ∧ a.defers = []) ∧ a.eval (.tmp 0) = .pointer (some ⟨b, 0, none⟩) ∧ a.eval (.tmp 6) = .pointer (some ⟨w2.heap.size, 0, none⟩) ∧ a.eval (.tmp 7) = .int .i64 i ∧ TabOk tab L a ∧
                Held L a w' 7 10 78 (fun u x => x.ownsRow W.heap.size 95 2 u i (cells2 (hs.take i))) ∧
                Held L a w' 9 10 80 (fun u x => Sl x 95 u 1 [.slice p1 k.length c1, .slice p2 v.length c2]) ∧
                Held L a w' 10 17 81 (fun u x => x.ownsRow W.heap.size 95 2 u (i + 1) (cells2 (hs.take i) ++ [.slice p1 k.length c1, .slice p2 v.length c2])) ∧
                Held L a w' 17 20 88 (fun u x => x.ownsRow W.heap.size 95 2 u (T.length + 1) ((cells2 (hs.take i) ++ [.slice p1 k.length c1, .slice p2 v.length c2]) ++ cells2 (hs.drop i))) ∧
                (L.getD 20 false = false → Ext [] W w') ∧ (L.getD 20 false = true → IsTab w' b (tput T k v) ∧ Ext [b] W w')) ?_ ?_ ?_ ?_
              · exact back_of (by kernel_rfl)
              · have hf : ∀ m, (Array.replicate 21 false).getD m false = false := by
                  intro m
                  simp only [Array.getD, Array.size_replicate]
                  split
                  · simp [Array.getInternal_eq_getElem]
                  · rfl
                have hf : ∀ m, ¬ (Array.replicate 21 false).getD m false = true := fun m => by rw [hf m]; simp
                refine ⟨⟨has, had⟩, ha0, ha6, ha7, fun y _ h => absurd h (hf _), fun h _ => absurd h (hf _), fun h _ => absurd h (hf _), fun h _ => absurd h (hf _), fun h _ => absurd h (hf _), fun _ => (Ext.refl [] W).drew, fun h => absurd h (hf _)⟩
              · intro L a w' hLs hall' hI
                obtain ⟨⟨i1, i0⟩, i2, i3, i4, i5, i6, i7, i8, i9, i10, i11⟩ := hI
                obtain ⟨q1, q2⟩ := i11 (hall' 20 (by decide))
                refine bodyPost_end (results_none rfl a.tmps _ w') i0 ?_
                exact ⟨rfl, q1, (hxW.mono (by simp)).same q2⟩
              · intro L a w' j o hLs hcl hI ho hL hdeps
                have hj : j < 21 := (Array.getElem?_eq_some_iff.1 ho).1
                have hLs : L.size = 21 := hLs
                obtain ⟨⟨i1, i0⟩, i2, i3, i4, i5, i6, i7, i8, i9, i10, i11⟩ := hI
                have I0 := Lib.hid i0
                clear i0
                have step : ∀ (j d : Nat) (x : Value), j < 21 → 71 ≤ d → d < 91 → j ≠ 7 → j ≠ 9 → j ≠ 10 → j ≠ 17 → j ≠ 20 → d ≠ 78 → d ≠ 80 → d ≠ 81 → d ≠ 88 → (∀ y ∈ tab, y.1 = j → y.2 = (d, x)) → (∀ y ∈ tab, y.1 ≠ j → y.2.1 ≠ d) → L.getD 20 false = false →
                    (((a.put (some d) x).tmps.size = 91 ∧ (a.put (some d) x).defers = []) ∧ (a.put (some d) x).eval (.tmp 0) = .pointer (some ⟨b, 0, none⟩) ∧ (a.put (some d) x).eval (.tmp 6) = .pointer (some ⟨w2.heap.size, 0, none⟩) ∧ (a.put (some d) x).eval (.tmp 7) = .int .i64 i ∧ TabOk tab (L.setIfInBounds j true) (a.put (some d) x) ∧
                      Held (L.setIfInBounds j true) (a.put (some d) x) w' 7 10 78 (fun u x => x.ownsRow W.heap.size 95 2 u i (cells2 (hs.take i))) ∧
                      Held (L.setIfInBounds j true) (a.put (some d) x) w' 9 10 80 (fun u x => Sl x 95 u 1 [.slice p1 k.length c1, .slice p2 v.length c2]) ∧
                      Held (L.setIfInBounds j true) (a.put (some d) x) w' 10 17 81 (fun u x => x.ownsRow W.heap.size 95 2 u (i + 1) (cells2 (hs.take i) ++ [.slice p1 k.length c1, .slice p2 v.length c2])) ∧
                      Held (L.setIfInBounds j true) (a.put (some d) x) w' 17 20 88 (fun u x => x.ownsRow W.heap.size 95 2 u (T.length + 1) ((cells2 (hs.take i) ++ [.slice p1 k.length c1, .slice p2 v.length c2]) ++ cells2 (hs.drop i))) ∧
                      ((L.setIfInBounds j true).getD 20 false = false → Ext [] W w') ∧ ((L.setIfInBounds j true).getD 20 false = true → IsTab w' b (tput T k v) ∧ Ext [b] W w')) := by
                  intro j d x q1 q2 q3 n7 n9 n10 n17 n20 m1 m2 m3 m4 r1 r2 h20
                  have hjL : j < L.size := by omega
                  refine ⟨⟨by rw [put_size]; exact i1, I0.out⟩, by rw [eval_ne (by omega)]; exact i2, by rw [eval_ne (by omega)]; exact i3, by rw [eval_ne (by omega)]; exact i4, i5.step hjL (by omega) r1 r2, i6.step hjL n7 m1 (fun _ _ h => h), i7.step hjL n9 m2 (fun _ _ h => h), i8.step hjL n10 m3 (fun _ _ h => h), i9.step hjL n17 m4 (fun _ _ h => h), fun _ => i10 h20, fun hh => ?_⟩
                  rw [listed_set hjL, if_neg n20, h20] at hh
                  cases hh
                have h20 : j ≠ 20 → L.getD 20 false = false := by
                  intro hne
                  cases h : L.getD 20 false with
                  | false => rfl
                  | true =>
                    have h19 := hcl 20 _ rfl h ⟨19, .data⟩ (by simp) rfl
                    have h18 := hcl 19 _ rfl h19 ⟨18, .data⟩ (by simp) rfl
                    have hh : ∀ m, m < 18 → L.getD m false = true := by
                      intro m hm
                      refine hcl 20 _ rfl h ⟨m, .phase⟩ ?_ rfl
                      have hm' : m = 0 ∨ m = 1 ∨ m = 2 ∨ m = 3 ∨ m = 4 ∨ m = 5 ∨ m = 6 ∨ m = 7 ∨ m = 8 ∨ m = 9 ∨ m = 10 ∨ m = 11 ∨ m = 12 ∨ m = 13 ∨ m = 14 ∨ m = 15 ∨ m = 16 ∨ m = 17 := by omega
                      rcases hm' with rfl | rfl | rfl | rfl | rfl | rfl | rfl | rfl | rfl | rfl | rfl | rfl | rfl | rfl | rfl | rfl | rfl | rfl <;> simp
                    have hj3 : j < 18 ∨ j = 18 ∨ j = 19 := by omega
                    rcases hj3 with hj3 | rfl | rfl
                    · rw [hh j hj3] at hL; cases hL
                    · rw [h18] at hL; cases hL
                    · rw [h19] at hL; cases hL
                have hx0 := fun h => (i10 h)
                have hjj : j = 0 ∨ j = 1 ∨ j = 2 ∨ j = 3 ∨ j = 4 ∨ j = 5 ∨ j = 6 ∨ j = 7 ∨ j = 8 ∨ j = 9 ∨ j = 10 ∨ j = 11 ∨ j = 12 ∨ j = 13 ∨ j = 14 ∨ j = 15 ∨ j = 16 ∨ j = 17 ∨ j = 18 ∨ j = 19 ∨ j = 20 := by omega
                rcases hjj with rfl | rfl | rfl | rfl | rfl | rfl | rfl | rfl | rfl | rfl | rfl | rfl | rfl | rfl | rfl | rfl | rfl | rfl | rfl | rfl | rfl
                · injection ho with ho
                  subst ho
                  refine wpList_plain rfl fun K hK => ?_
                  unfold Oper.wp
                  simp [execOp, i2, i3, i4]
                  exact hK _ _ (step 0 71 (.pointer (some ⟨b, 0, none⟩)) (by decide) (by decide) (by decide) (by decide) (by decide) (by decide) (by decide) (by decide) (by decide) (by decide) (by decide) (by decide) (by simp [HTAB.out]) (by simp [HTAB.out]) (h20 (by decide)))
                · injection ho with ho
                  subst ho
                  refine wpList_plain rfl fun K hK => ?_
                  unfold Oper.wp
                  simp [execOp, i2, i3, i4]
                  exact hK _ _ (step 1 72 (.pointer (some ⟨b, 0, none⟩)) (by decide) (by decide) (by decide) (by decide) (by decide) (by decide) (by decide) (by decide) (by decide) (by decide) (by decide) (by decide) (by simp [HTAB.out]) (by simp [HTAB.out]) (h20 (by decide)))
                · injection ho with ho
                  subst ho
                  have e0 := i5 (1, 72, .pointer (some ⟨b, 0, none⟩)) (by simp [HTAB.out]) (hdeps ⟨1, .data⟩ (by simp) rfl)
                  refine wpList_plain rfl fun K hK => ?_
                  unfold Oper.wp
                  simp [execOp, i2, i3, i4, e0]
                  exact hK _ _ (step 2 73 (.pointer (some ⟨b, 0, none⟩)) (by decide) (by decide) (by decide) (by decide) (by decide) (by decide) (by decide) (by decide) (by decide) (by decide) (by decide) (by decide) (by simp [HTAB.out]) (by simp [HTAB.out]) (h20 (by decide)))
                · injection ho with ho
                  subst ho
                  have e0 := i5 (2, 73, .pointer (some ⟨b, 0, none⟩)) (by simp [HTAB.out]) (hdeps ⟨2, .data⟩ (by simp) rfl)
                  refine wpList_plain rfl fun K hK => ?_
                  unfold Oper.wp
                  simp [execOp, i2, i3, i4, e0]
                  go_simp
                  exact hK _ _ (step 3 74 (.pointer (some ⟨b, 0, none⟩)) (by decide) (by decide) (by decide) (by decide) (by decide) (by decide) (by decide) (by decide) (by decide) (by decide) (by decide) (by decide) (by simp [HTAB.out]) (by simp [HTAB.out]) (h20 (by decide)))
                · injection ho with ho
                  subst ho
                  have e0 := i5 (3, 74, .pointer (some ⟨b, 0, none⟩)) (by simp [HTAB.out]) (hdeps ⟨3, .data⟩ (by simp) rfl)
                  have xe := i10 (h20 (by decide))
                  have cl := xe.cell (by simp) cW
                  refine wpList_plain rfl fun K hK => ?_
                  unfold Oper.wp
                  simp [execOp, i2, i3, i4, e0, cl]
                  go_simp
                  exact hK _ _ (step 4 75 (.slice vp T.length vc) (by decide) (by decide) (by decide) (by decide) (by decide) (by decide) (by decide) (by decide) (by decide) (by decide) (by decide) (by decide) (by simp [HTAB.out]) (by simp [HTAB.out]) (h20 (by decide)))
                · injection ho with ho
                  subst ho
                  refine wpList_plain rfl fun K hK => ?_
                  unfold Oper.wp
                  simp [execOp, i2, i3, i4]
                  exact hK _ _ (step 5 76 (.int .i64 i) (by decide) (by decide) (by decide) (by decide) (by decide) (by decide) (by decide) (by decide) (by decide) (by decide) (by decide) (by decide) (by simp [HTAB.out]) (by simp [HTAB.out]) (h20 (by decide)))
                · injection ho with ho
                  subst ho
                  have e0 := i5 (4, 75, .slice vp T.length vc) (by simp [HTAB.out]) (hdeps ⟨4, .data⟩ (by simp) rfl)
                  have e1 := i5 (5, 76, .int .i64 i) (by simp [HTAB.out]) (hdeps ⟨5, .data⟩ (by simp) rfl)
                  refine wpList_plain rfl fun K hK => ?_
                  unfold Oper.wp
                  have hsl := r7 w'
                  simp [execOp, e0, e1, hsl]
                  exact hK _ _ (step 6 77 (.slice p7 i vc) (by decide) (by decide) (by decide) (by decide) (by decide) (by decide) (by decide) (by decide) (by decide) (by decide) (by decide) (by decide) (by simp [HTAB.out]) (by simp [HTAB.out]) (h20 (by decide)))
                · injection ho with ho
                  subst ho
                  have e0 := i5 (6, 77, .slice p7 i vc) (by simp [HTAB.out]) (hdeps ⟨6, .data⟩ (by simp) rfl)
                  have xe := i10 (h20 (by decide))
                  have hsl := hS7.then xe
                  refine app0 (base := W.heap.size) Tryz.underlying51 row_pair (by decide) hsl (by rw [cells2_length, List.length_take]; have := hrdW.2.length; omega) (cells2_one (hrdW.2.take i)) (by omega) (by omega) xe.size e0 ?_
                  intro v' w'' ho' hx' hf'
                  refine ⟨⟨by rw [put_size]; exact i1, I0.out⟩, by rw [eval_ne (by decide)]; exact i2, by rw [eval_ne (by decide)]; exact i3, by rw [eval_ne (by decide)]; exact i4, i5.step (by omega) (by omega) (by simp [HTAB.out]) (by simp [HTAB.out]), Held.new (by omega) ho', i7.step (by omega) (by decide) (by decide) (fun _ _ h => h.then hx'), i8.step (by omega) (by decide) (by decide) (fun _ _ h => own_then h hx'), i9.step (by omega) (by decide) (by decide) (fun _ _ h => own_then h hx'), fun _ => xe.then hx', fun hh => ?_⟩
                  rw [listed_set (by omega), if_neg (by decide), h20 (by decide)] at hh
                  cases hh
                · injection ho with ho
                  subst ho
                  have xe := i10 (h20 (by decide))
                  have cl := xe.cell (by simp) t0
                  have cl2 := xe.cell (by simp) t1
                  refine wpList_plain rfl fun K hK => ?_
                  unfold Oper.wp
                  simp [execOp, i2, i3, i4, cl, cl2]
                  go_simp
                  exact hK _ _ (step 8 79 (.agg #[.slice p1 k.length c1, .slice p2 v.length c2]) (by decide) (by decide) (by decide) (by decide) (by decide) (by decide) (by decide) (by decide) (by decide) (by decide) (by decide) (by decide) (by simp [HTAB.out]) (by simp [HTAB.out]) (h20 (by decide)))
                · injection ho with ho
                  subst ho
                  have e0 := i5 (8, 79, .agg #[.slice p1 k.length c1, .slice p2 v.length c2]) (by simp [HTAB.out]) (hdeps ⟨8, .data⟩ (by simp) rfl)
                  have xe := i10 (h20 (by decide))
                  have hx' := (Ext.refl [] w').alloc (.cells #[.slice p1 k.length c1, .slice p2 v.length c2] 95)
                  refine wpList_plain rfl fun K hK => ?_
                  unfold Oper.wp
                  simp [execOp, e0]
                  go_simp
                  refine hK (a.put (some 80) (.slice (some ⟨w'.heap.size, 0, none⟩) 1 1)) (w'.alloc (.cells #[.slice p1 k.length c1, .slice p2 v.length c2] 95)) ?_
                  refine ⟨⟨by rw [put_size]; exact i1, I0.out⟩, by rw [eval_ne (by decide)]; exact i2, by rw [eval_ne (by decide)]; exact i3, by rw [eval_ne (by decide)]; exact i4, i5.step (by omega) (by omega) (by simp [HTAB.out]) (by simp [HTAB.out]), i6.step (by omega) (by decide) (by decide) (fun _ _ h => own_then h hx'), Held.new (by omega) (Sl.lit 95 2 #[.slice p1 k.length c1, .slice p2 v.length c2] 1 (by decide) rfl w' (by decide)), i8.step (by omega) (by decide) (by decide) (fun _ _ h => own_then h hx'), i9.step (by omega) (by decide) (by decide) (fun _ _ h => own_then h hx'), fun _ => xe.then hx', fun hh => ?_⟩
                  rw [listed_set (by omega), if_neg (by decide), h20 (by decide)] at hh
                  cases hh
                · injection ho with ho
                  subst ho
                  have xe := i10 (h20 (by decide))
                  have hown := i6 (hdeps ⟨7, .data⟩ (by simp) rfl) hL
                  have hsl := i7 (hdeps ⟨9, .data⟩ (by simp) rfl) hL
                  refine app Tryz.underlying51 row_pair (by decide) hown hsl rfl (by simp [Value.oneCell']) (by omega) (by omega) xe.size rfl rfl ?_
                  intro v' w'' ho' hg' hat'
                  have hx' : Ext [] W w'' := xe.trans ((Ext.refl (a.eval (.tmp 78)).ownBlock.toList w').grown hg' (fun k hk _ => by simp [hk])) (fun b hb hlt => by have := own_fresh hown b (by simpa using hb); omega)
                  refine ⟨⟨by rw [put_size]; exact i1, I0.out⟩, by rw [eval_ne (by decide)]; exact i2, by rw [eval_ne (by decide)]; exact i3, by rw [eval_ne (by decide)]; exact i4, i5.step (by omega) (by omega) (by simp [HTAB.out]) (by simp [HTAB.out]), i6.step (by omega) (by decide) (by decide) (fun h => absurd rfl h), i7.step (by omega) (by decide) (by decide) (fun h => absurd rfl h), Held.new (by omega) ho', fun h1 _ => ?_, fun _ => hx', fun hh => ?_⟩
                  · rw [listed_set (by omega), if_neg (by decide)] at h1
                    have := hcl 17 _ rfl h1 ⟨10, .data⟩ (by simp) rfl
                    rw [hL] at this
                    cases this
                  · rw [listed_set (by omega), if_neg (by decide), h20 (by decide)] at hh
                    cases hh
                · injection ho with ho
                  subst ho
                  refine wpList_plain rfl fun K hK => ?_
                  unfold Oper.wp
                  simp [execOp, i2, i3, i4]
                  exact hK _ _ (step 11 82 (.pointer (some ⟨b, 0, none⟩)) (by decide) (by decide) (by decide) (by decide) (by decide) (by decide) (by decide) (by decide) (by decide) (by decide) (by decide) (by decide) (by simp [HTAB.out]) (by simp [HTAB.out]) (h20 (by decide)))
                · injection ho with ho
                  subst ho
                  have e0 := i5 (11, 82, .pointer (some ⟨b, 0, none⟩)) (by simp [HTAB.out]) (hdeps ⟨11, .data⟩ (by simp) rfl)
                  refine wpList_plain rfl fun K hK => ?_
                  unfold Oper.wp
                  simp [execOp, i2, i3, i4, e0]
                  exact hK _ _ (step 12 83 (.pointer (some ⟨b, 0, none⟩)) (by decide) (by decide) (by decide) (by decide) (by decide) (by decide) (by decide) (by decide) (by decide) (by decide) (by decide) (by decide) (by simp [HTAB.out]) (by simp [HTAB.out]) (h20 (by decide)))
                · injection ho with ho
                  subst ho
                  have e0 := i5 (12, 83, .pointer (some ⟨b, 0, none⟩)) (by simp [HTAB.out]) (hdeps ⟨12, .data⟩ (by simp) rfl)
                  refine wpList_plain rfl fun K hK => ?_
                  unfold Oper.wp
                  simp [execOp, i2, i3, i4, e0]
                  go_simp
                  exact hK _ _ (step 13 84 (.pointer (some ⟨b, 0, none⟩)) (by decide) (by decide) (by decide) (by decide) (by decide) (by decide) (by decide) (by decide) (by decide) (by decide) (by decide) (by decide) (by simp [HTAB.out]) (by simp [HTAB.out]) (h20 (by decide)))
                · injection ho with ho
                  subst ho
                  have e0 := i5 (13, 84, .pointer (some ⟨b, 0, none⟩)) (by simp [HTAB.out]) (hdeps ⟨13, .data⟩ (by simp) rfl)
                  have xe := i10 (h20 (by decide))
                  have cl := xe.cell (by simp) cW
                  refine wpList_plain rfl fun K hK => ?_
                  unfold Oper.wp
                  simp [execOp, i2, i3, i4, e0, cl]
                  go_simp
                  exact hK _ _ (step 14 85 (.slice vp T.length vc) (by decide) (by decide) (by decide) (by decide) (by decide) (by decide) (by decide) (by decide) (by decide) (by decide) (by decide) (by decide) (by simp [HTAB.out]) (by simp [HTAB.out]) (h20 (by decide)))
                · injection ho with ho
                  subst ho
                  refine wpList_plain rfl fun K hK => ?_
                  unfold Oper.wp
                  simp [execOp, i2, i3, i4]
                  exact hK _ _ (step 15 86 (.int .i64 i) (by decide) (by decide) (by decide) (by decide) (by decide) (by decide) (by decide) (by decide) (by decide) (by decide) (by decide) (by decide) (by simp [HTAB.out]) (by simp [HTAB.out]) (h20 (by decide)))
                · injection ho with ho
                  subst ho
                  have e0 := i5 (14, 85, .slice vp T.length vc) (by simp [HTAB.out]) (hdeps ⟨14, .data⟩ (by simp) rfl)
                  have e1 := i5 (15, 86, .int .i64 i) (by simp [HTAB.out]) (hdeps ⟨15, .data⟩ (by simp) rfl)
                  refine wpList_plain rfl fun K hK => ?_
                  unfold Oper.wp
                  have hsl := r8 w'
                  simp [execOp, e0, e1, hsl]
                  exact hK _ _ (step 16 87 (.slice p8 (T.length - i) (vc - i)) (by decide) (by decide) (by decide) (by decide) (by decide) (by decide) (by decide) (by decide) (by decide) (by decide) (by decide) (by decide) (by simp [HTAB.out]) (by simp [HTAB.out]) (h20 (by decide)))
                · injection ho with ho
                  subst ho
                  have xe := i10 (h20 (by decide))
                  have h10 := hdeps ⟨10, .data⟩ (by simp) rfl
                  have hown := i8 h10 hL
                  have e0 := i5 (16, 87, .slice p8 (T.length - i) (vc - i)) (by simp [HTAB.out]) (hdeps ⟨16, .data⟩ (by simp) rfl)
                  have hsl := hS8.then xe
                  refine app Tryz.underlying51 row_pair (by decide) hown hsl (by rw [cells2_length, List.length_drop]; have := hrdW.2.length; omega) (cells2_one (hrdW.2.drop i)) (by omega) (by omega) xe.size rfl e0 ?_
                  intro v' w'' ho' hg' hat'
                  rw [show i + 1 + (T.length - i) = T.length + 1 by omega] at ho'
                  have hx' : Ext [] W w'' := xe.trans ((Ext.refl (a.eval (.tmp 81)).ownBlock.toList w').grown hg' (fun k hk _ => by simp [hk])) (fun b hb hlt => by have := own_fresh hown b (by simpa using hb); omega)
                  refine ⟨⟨by rw [put_size]; exact i1, I0.out⟩, by rw [eval_ne (by decide)]; exact i2, by rw [eval_ne (by decide)]; exact i3, by rw [eval_ne (by decide)]; exact i4, i5.step (by omega) (by omega) (by simp [HTAB.out]) (by simp [HTAB.out]), fun _ h2 => ?_, fun _ h2 => ?_, i8.step (by omega) (by decide) (by decide) (fun h => absurd rfl h), Held.new (by omega) ho', fun _ => hx', fun hh => ?_⟩
                  · rw [listed_set (by omega), if_neg (by decide), h10] at h2; cases h2
                  · rw [listed_set (by omega), if_neg (by decide), h10] at h2; cases h2
                  · rw [listed_set (by omega), if_neg (by decide), h20 (by decide)] at hh
                    cases hh
                · injection ho with ho
                  subst ho
                  have e0 := i5 (0, 71, .pointer (some ⟨b, 0, none⟩)) (by simp [HTAB.out]) (hdeps ⟨0, .data⟩ (by simp) rfl)
                  refine wpList_plain rfl fun K hK => ?_
                  unfold Oper.wp
                  simp [execOp, i2, i3, i4, e0]
                  exact hK _ _ (step 18 89 (.pointer (some ⟨b, 0, none⟩)) (by decide) (by decide) (by decide) (by decide) (by decide) (by decide) (by decide) (by decide) (by decide) (by decide) (by decide) (by decide) (by simp [HTAB.out]) (by simp [HTAB.out]) (h20 (by decide)))
                · injection ho with ho
                  subst ho
                  have e0 := i5 (18, 89, .pointer (some ⟨b, 0, none⟩)) (by simp [HTAB.out]) (hdeps ⟨18, .data⟩ (by simp) rfl)
                  refine wpList_plain rfl fun K hK => ?_
                  unfold Oper.wp
                  simp [execOp, i2, i3, i4, e0]
                  go_simp
                  exact hK _ _ (step 19 90 (.pointer (some ⟨b, 0, none⟩)) (by decide) (by decide) (by decide) (by decide) (by decide) (by decide) (by decide) (by decide) (by decide) (by decide) (by decide) (by decide) (by simp [HTAB.out]) (by simp [HTAB.out]) (h20 (by decide)))
                · injection ho with ho
                  subst ho
                  have xe := i10 hL
                  have h17 := hdeps ⟨17, .data⟩ (by simp) rfl
                  have h10 := hdeps ⟨10, .phase⟩ (by simp) rfl
                  have hown := i9 h17 hL
                  have e0 := i5 (19, 90, .pointer (some ⟨b, 0, none⟩)) (by simp [HTAB.out]) (hdeps ⟨19, .data⟩ (by simp) rfl)
                  obtain ⟨rp, rc, e1, _, _⟩ := own_size hown
                  rw [e1] at hown
                  have hb' := (xe.block b (by have := hx2.size; omega) (by simp)).trans hbW
                  have hfz := frozen_of_row w' b 0 _ _ hb'
                  have cl := xe.cell (by simp) cW
                  have hcells : (cells2 (hs.take i) ++ [.slice p1 k.length c1, .slice p2 v.length c2]) ++ cells2 (hs.drop i) = cells2 (hs.take i ++ (.slice p1 k.length c1, .slice p2 v.length c2) :: hs.drop i) := by
                    rw [cells2_append, List.append_assoc]
                    rfl
                  rw [hcells] at hown
                  have hrel : Rel2 (PairH w') (hs.take i ++ (.slice p1 k.length c1, .slice p2 v.length c2) :: hs.drop i) (tput T k v) := by
                    rw [HPUT.out]
                    exact ((hrdW.2.take i).append (Rel2.cons hprW (hrdW.2.drop i))).imp fun _ _ q => q.ext xe (by simp)
                  have hlen : (tput T k v).length = T.length + 1 := by rw [HPUT.out]; simp only [List.length_append, List.length_cons, List.length_take, List.length_drop]; omega
                  obtain ⟨q1, q2⟩ := IsTab.set hb' (show RdP w' (.slice rp (T.length + 1) rc) _ (tput T k v) from ⟨by rw [hlen]; exact Sl.of_own hown (by decide), hrel⟩)
                  refine wpList_plain rfl fun K hK => ?_
                  unfold Oper.wp
                  simp [execOp, e0, e1]
                  go_simp
                  refine hK a (w'.setCell ⟨b, 0, none⟩ (.slice rp (T.length + 1) rc)) ?_
                  refine ⟨⟨i1, I0.out⟩, i2, i3, i4, fun y hy hh => ?_, fun _ h2 => ?_, fun _ h2 => ?_, fun _ h2 => ?_, fun _ h2 => ?_, fun hh => ?_, fun _ => ⟨q1, (xe.mono (by simp)).same q2⟩⟩
                  · have hy20 : ¬ 20 = y.1 := by
                      have := HTAB.out ▸ hy
                      simp at this
                      rcases this with rfl | rfl | rfl | rfl | rfl | rfl | rfl | rfl | rfl | rfl | rfl | rfl | rfl | rfl | rfl | rfl <;> simp
                    rw [listed_set (by omega), if_neg hy20] at hh
                    exact i5 y hy hh
                  · rw [listed_set (by omega), if_neg (by decide), h10] at h2; cases h2
                  · rw [listed_set (by omega), if_neg (by decide), h10] at h2; cases h2
                  · rw [listed_set (by omega), if_neg (by decide), h17] at h2; cases h2
                  · rw [listed_set (by omega), if_pos rfl] at h2; cases h2
                  · rw [listed_set (by omega), if_pos rfl] at hh; cases hh
    · have e : i = T.length := by omega
      subst e
      have hx2 := hx.drew.drew
      have d2 := hx2.cell (by simp) c0
      have hxW := hx2
      have hrdW := hrd.then hx2
      have hprW : PairH wr.drew.drew (.slice p1 k.length c1, .slice p2 v.length c2) (k, v) := hpr.ext hx3.drew.drew (by simp)
      have t0 := hx3.drew.drew.cell (by simp) s0
      have t1 := hx3.drew.drew.cell (by simp) s1
      have hbW : wr.drew.drew.heap[b]? = some (.cells #[.slice vp T.length vc] 54 (0, 0)) := (hx2.block b hbl (by simp)).trans HB.out
      iterate 120 (first | at_builtin | go_step | skip)
      go_region
      all_goals
          iterate 120 (first | at_builtin | go_step | skip)
          go_region
          all_goals
              iterate 120 (first | at_builtin | go_step | skip)
              have cW := d2
              clear hstr d2 d0 e0
              generalize wr.drew.drew = W at *
              have HPUT := Lib.hid (show tput T k v = T.take T.length ++ (k, v) :: T.drop T.length by rw [tput_at (Nat.le_refl _) HA.out (fun h => absurd h (Nat.lt_irrefl _)), dif_neg (Nat.lt_irrefl _)]; simp)
              obtain ⟨p7, r7, hS7⟩ : ∃ p7, (∀ W', (Instr.sliceAt 51 (.slice vp T.length vc) none (some (.int .i64 T.length)) none).run Tryz.prog W' = .ok (.slice p7 T.length vc) W') ∧ Sl W 95 (.slice p7 T.length vc) T.length (cells2 (hs.take T.length)) :=
                ⟨_, fun W' => slice_to W' _ _ _ _ hc1, by rw [List.take_of_length_le (by have := hrdW.2.length; omega)]; exact hrdW.1⟩
              obtain ⟨p8, r8, hS8⟩ : ∃ p8, (∀ W', (Instr.sliceAt 51 (.slice vp T.length vc) (some (.int .i64 T.length)) none none).run Tryz.prog W' = .ok (.slice p8 0 (vc - T.length)) W') ∧ Sl W 95 (.slice p8 0 (vc - T.length)) 0 (cells2 (hs.drop T.length)) :=
                ⟨_, fun W' => slice_end W' _ _ _ hc1, ⟨_, _, rfl, by omega, by omega, .inl ⟨rfl, by rw [List.drop_of_length_le (by have := hrdW.2.length; omega)]; rfl⟩⟩⟩
              generalize hA : (⟨_, _⟩ : Act) = A
              have ha0 : A.eval (.tmp 0) = .pointer (some ⟨b, 0, none⟩) := by subst hA; rfl
              have ha6 : A.eval (.tmp 6) = .pointer (some ⟨w2.heap.size, 0, none⟩) := by subst hA; rfl
              have ha7 : A.eval (.tmp 7) = .int .i64 T.length := by subst hA; rfl
              have has : A.tmps.size = 91 := by subst hA; rfl
              have had : A.defers = [] := by subst hA; rfl
              clear hA
              obtain ⟨tab, htab⟩ : ∃ tab : List (Nat × Nat × Value), tab = [(0, 71, .pointer (some ⟨b, 0, none⟩)), (1, 72, .pointer (some ⟨b, 0, none⟩)), (2, 73, .pointer (some ⟨b, 0, none⟩)), (3, 74, .pointer (some ⟨b, 0, none⟩)),
                (4, 75, .slice vp T.length vc), (5, 76, .int .i64 T.length), (6, 77, .slice p7 T.length vc), (8, 79, .agg #[.slice p1 k.length c1, .slice p2 v.length c2]),
                (11, 82, .pointer (some ⟨b, 0, none⟩)), (12, 83, .pointer (some ⟨b, 0, none⟩)), (13, 84, .pointer (some ⟨b, 0, none⟩)), (14, 85, .slice vp T.length vc), (15, 86, .int .i64 T.length),
                (16, 87, .slice p8 0 (vc - T.length)), (18, 89, .pointer (some ⟨b, 0, none⟩)), (19, 90, .pointer (some ⟨b, 0, none⟩))] := ⟨_, rfl⟩
              have HTAB := Lib.hid htab
              clear htab
              refine region_rely (by kernel_rfl) (fun L a w' => (a.tmps.size = 91 ∧ a.defers = []) ∧ a.eval (.tmp 0) = .pointer (some ⟨b, 0, none⟩) ∧ a.eval (.tmp 6) = .pointer (some ⟨w2.heap.size, 0, none⟩) ∧ a.eval (.tmp 7) = .int .i64 T.length ∧ TabOk tab L a ∧
                Held L a w' 7 10 78 (fun u x => x.ownsRow W.heap.size 95 2 u T.length (cells2 (hs.take T.length))) ∧
                Held L a w' 9 10 80 (fun u x => Sl x 95 u 1 [.slice p1 k.length c1, .slice p2 v.length c2]) ∧
                Held L a w' 10 17 81 (fun u x => x.ownsRow W.heap.size 95 2 u (T.length + 1) (cells2 (hs.take T.length) ++ [.slice p1 k.length c1, .slice p2 v.length c2])) ∧
                Held L a w' 17 20 88 (fun u x => x.ownsRow W.heap.size 95 2 u (T.length + 1) ((cells2 (hs.take T.length) ++ [.slice p1 k.length c1, .slice p2 v.length c2]) ++ cells2 (hs.drop T.length))) ∧
                (L.getD 20 false = false → Ext [] W w') ∧ (L.getD 20 false = true → IsTab w' b (tput T k v) ∧ Ext [b] W w')) ?_ ?_ ?_ ?_
              · exact back_of (by kernel_rfl)
              · have hf : ∀ m, (Array.replicate 21 false).getD m false = false := by
                  intro m
                  simp only [Array.getD, Array.size_replicate]
                  split
                  · simp [Array.getInternal_eq_getElem]
                  · rfl
                have hf : ∀ m, ¬ (Array.replicate 21 false).getD m false = true := fun m => by rw [hf m]; simp
                refine ⟨⟨has, had⟩, ha0, ha6, ha7, fun y _ h => absurd h (hf _), fun h _ => absurd h (hf _), fun h _ => absurd h (hf _), fun h _ => absurd h (hf _), fun h _ => absurd h (hf _), fun _ => (Ext.refl [] W).drew, fun h => absurd h (hf _)⟩
              · intro L a w' hLs hall' hI
                obtain ⟨⟨i1, i0⟩, i2, i3, i4, i5, i6, i7, i8, i9, i10, i11⟩ := hI
                obtain ⟨q1, q2⟩ := i11 (hall' 20 (by decide))
                refine bodyPost_end (results_none rfl a.tmps _ w') i0 ?_
                exact ⟨rfl, q1, (hxW.mono (by simp)).same q2⟩
              · intro L a w' j o hLs hcl hI ho hL hdeps
                have hj : j < 21 := (Array.getElem?_eq_some_iff.1 ho).1
                have hLs : L.size = 21 := hLs
                obtain ⟨⟨i1, i0⟩, i2, i3, i4, i5, i6, i7, i8, i9, i10, i11⟩ := hI
                have I0 := Lib.hid i0
                clear i0
                have step : ∀ (j d : Nat) (x : Value), j < 21 → 71 ≤ d → d < 91 → j ≠ 7 → j ≠ 9 → j ≠ 10 → j ≠ 17 → j ≠ 20 → d ≠ 78 → d ≠ 80 → d ≠ 81 → d ≠ 88 → (∀ y ∈ tab, y.1 = j → y.2 = (d, x)) → (∀ y ∈ tab, y.1 ≠ j → y.2.1 ≠ d) → L.getD 20 false = false →
                    (((a.put (some d) x).tmps.size = 91 ∧ (a.put (some d) x).defers = []) ∧ (a.put (some d) x).eval (.tmp 0) = .pointer (some ⟨b, 0, none⟩) ∧ (a.put (some d) x).eval (.tmp 6) = .pointer (some ⟨w2.heap.size, 0, none⟩) ∧ (a.put (some d) x).eval (.tmp 7) = .int .i64 T.length ∧ TabOk tab (L.setIfInBounds j true) (a.put (some d) x) ∧
                      Held (L.setIfInBounds j true) (a.put (some d) x) w' 7 10 78 (fun u x => x.ownsRow W.heap.size 95 2 u T.length (cells2 (hs.take T.length))) ∧
                      Held (L.setIfInBounds j true) (a.put (some d) x) w' 9 10 80 (fun u x => Sl x 95 u 1 [.slice p1 k.length c1, .slice p2 v.length c2]) ∧
                      Held (L.setIfInBounds j true) (a.put (some d) x) w' 10 17 81 (fun u x => x.ownsRow W.heap.size 95 2 u (T.length + 1) (cells2 (hs.take T.length) ++ [.slice p1 k.length c1, .slice p2 v.length c2])) ∧
                      Held (L.setIfInBounds j true) (a.put (some d) x) w' 17 20 88 (fun u x => x.ownsRow W.heap.size 95 2 u (T.length + 1) ((cells2 (hs.take T.length) ++ [.slice p1 k.length c1, .slice p2 v.length c2]) ++ cells2 (hs.drop T.length))) ∧
                      ((L.setIfInBounds j true).getD 20 false = false → Ext [] W w') ∧ ((L.setIfInBounds j true).getD 20 false = true → IsTab w' b (tput T k v) ∧ Ext [b] W w')) := by
                  intro j d x q1 q2 q3 n7 n9 n10 n17 n20 m1 m2 m3 m4 r1 r2 h20
                  have hjL : j < L.size := by omega
                  refine ⟨⟨by rw [put_size]; exact i1, I0.out⟩, by rw [eval_ne (by omega)]; exact i2, by rw [eval_ne (by omega)]; exact i3, by rw [eval_ne (by omega)]; exact i4, i5.step hjL (by omega) r1 r2, i6.step hjL n7 m1 (fun _ _ h => h), i7.step hjL n9 m2 (fun _ _ h => h), i8.step hjL n10 m3 (fun _ _ h => h), i9.step hjL n17 m4 (fun _ _ h => h), fun _ => i10 h20, fun hh => ?_⟩
                  rw [listed_set hjL, if_neg n20, h20] at hh
                  cases hh
                have h20 : j ≠ 20 → L.getD 20 false = false := by
                  intro hne
                  cases h : L.getD 20 false with
                  | false => rfl
                  | true =>
                    have h19 := hcl 20 _ rfl h ⟨19, .data⟩ (by simp) rfl
                    have h18 := hcl 19 _ rfl h19 ⟨18, .data⟩ (by simp) rfl
                    have hh : ∀ m, m < 18 → L.getD m false = true := by
                      intro m hm
                      refine hcl 20 _ rfl h ⟨m, .phase⟩ ?_ rfl
                      have hm' : m = 0 ∨ m = 1 ∨ m = 2 ∨ m = 3 ∨ m = 4 ∨ m = 5 ∨ m = 6 ∨ m = 7 ∨ m = 8 ∨ m = 9 ∨ m = 10 ∨ m = 11 ∨ m = 12 ∨ m = 13 ∨ m = 14 ∨ m = 15 ∨ m = 16 ∨ m = 17 := by omega
                      rcases hm' with rfl | rfl | rfl | rfl | rfl | rfl | rfl | rfl | rfl | rfl | rfl | rfl | rfl | rfl | rfl | rfl | rfl | rfl <;> simp
                    have hj3 : j < 18 ∨ j = 18 ∨ j = 19 := by omega
                    rcases hj3 with hj3 | rfl | rfl
                    · rw [hh j hj3] at hL; cases hL
                    · rw [h18] at hL; cases hL
                    · rw [h19] at hL; cases hL
                have hx0 := fun h => (i10 h)
                have hjj : j = 0 ∨ j = 1 ∨ j = 2 ∨ j = 3 ∨ j = 4 ∨ j = 5 ∨ j = 6 ∨ j = 7 ∨ j = 8 ∨ j = 9 ∨ j = 10 ∨ j = 11 ∨ j = 12 ∨ j = 13 ∨ j = 14 ∨ j = 15 ∨ j = 16 ∨ j = 17 ∨ j = 18 ∨ j = 19 ∨ j = 20 := by omega
                rcases hjj with rfl | rfl | rfl | rfl | rfl | rfl | rfl | rfl | rfl | rfl | rfl | rfl | rfl | rfl | rfl | rfl | rfl | rfl | rfl | rfl | rfl
                · injection ho with ho
                  subst ho
                  refine wpList_plain rfl fun K hK => ?_
                  unfold Oper.wp
                  simp [execOp, i2, i3, i4]
                  exact hK _ _ (step 0 71 (.pointer (some ⟨b, 0, none⟩)) (by decide) (by decide) (by decide) (by decide) (by decide) (by decide) (by decide) (by decide) (by decide) (by decide) (by decide) (by decide) (by simp [HTAB.out]) (by simp [HTAB.out]) (h20 (by decide)))
                · injection ho with ho
                  subst ho
                  refine wpList_plain rfl fun K hK => ?_
                  unfold Oper.wp
                  simp [execOp, i2, i3, i4]
                  exact hK _ _ (step 1 72 (.pointer (some ⟨b, 0, none⟩)) (by decide) (by decide) (by decide) (by decide) (by decide) (by decide) (by decide) (by decide) (by decide) (by decide) (by decide) (by decide) (by simp [HTAB.out]) (by simp [HTAB.out]) (h20 (by decide)))
                · injection ho with ho
                  subst ho
                  have e0 := i5 (1, 72, .pointer (some ⟨b, 0, none⟩)) (by simp [HTAB.out]) (hdeps ⟨1, .data⟩ (by simp) rfl)
                  refine wpList_plain rfl fun K hK => ?_
                  unfold Oper.wp
                  simp [execOp, i2, i3, i4, e0]
                  exact hK _ _ (step 2 73 (.pointer (some ⟨b, 0, none⟩)) (by decide) (by decide) (by decide) (by decide) (by decide) (by decide) (by decide) (by decide) (by decide) (by decide) (by decide) (by decide) (by simp [HTAB.out]) (by simp [HTAB.out]) (h20 (by decide)))
                · injection ho with ho
                  subst ho
                  have e0 := i5 (2, 73, .pointer (some ⟨b, 0, none⟩)) (by simp [HTAB.out]) (hdeps ⟨2, .data⟩ (by simp) rfl)
                  refine wpList_plain rfl fun K hK => ?_
                  unfold Oper.wp
                  simp [execOp, i2, i3, i4, e0]
                  go_simp
                  exact hK _ _ (step 3 74 (.pointer (some ⟨b, 0, none⟩)) (by decide) (by decide) (by decide) (by decide) (by decide) (by decide) (by decide) (by decide) (by decide) (by decide) (by decide) (by decide) (by simp [HTAB.out]) (by simp [HTAB.out]) (h20 (by decide)))
                · injection ho with ho
                  subst ho
                  have e0 := i5 (3, 74, .pointer (some ⟨b, 0, none⟩)) (by simp [HTAB.out]) (hdeps ⟨3, .data⟩ (by simp) rfl)
                  have xe := i10 (h20 (by decide))
                  have cl := xe.cell (by simp) cW
                  refine wpList_plain rfl fun K hK => ?_
                  unfold Oper.wp
                  simp [execOp, i2, i3, i4, e0, cl]
                  go_simp
                  exact hK _ _ (step 4 75 (.slice vp T.length vc) (by decide) (by decide) (by decide) (by decide) (by decide) (by decide) (by decide) (by decide) (by decide) (by decide) (by decide) (by decide) (by simp [HTAB.out]) (by simp [HTAB.out]) (h20 (by decide)))
                · injection ho with ho
                  subst ho
                  refine wpList_plain rfl fun K hK => ?_
                  unfold Oper.wp
                  simp [execOp, i2, i3, i4]
                  exact hK _ _ (step 5 76 (.int .i64 T.length) (by decide) (by decide) (by decide) (by decide) (by decide) (by decide) (by decide) (by decide) (by decide) (by decide) (by decide) (by decide) (by simp [HTAB.out]) (by simp [HTAB.out]) (h20 (by decide)))
                · injection ho with ho
                  subst ho
                  have e0 := i5 (4, 75, .slice vp T.length vc) (by simp [HTAB.out]) (hdeps ⟨4, .data⟩ (by simp) rfl)
                  have e1 := i5 (5, 76, .int .i64 T.length) (by simp [HTAB.out]) (hdeps ⟨5, .data⟩ (by simp) rfl)
                  refine wpList_plain rfl fun K hK => ?_
                  unfold Oper.wp
                  have hsl := r7 w'
                  simp [execOp, e0, e1, hsl]
                  exact hK _ _ (step 6 77 (.slice p7 T.length vc) (by decide) (by decide) (by decide) (by decide) (by decide) (by decide) (by decide) (by decide) (by decide) (by decide) (by decide) (by decide) (by simp [HTAB.out]) (by simp [HTAB.out]) (h20 (by decide)))
                · injection ho with ho
                  subst ho
                  have e0 := i5 (6, 77, .slice p7 T.length vc) (by simp [HTAB.out]) (hdeps ⟨6, .data⟩ (by simp) rfl)
                  have xe := i10 (h20 (by decide))
                  have hsl := hS7.then xe
                  refine app0 (base := W.heap.size) Tryz.underlying51 row_pair (by decide) hsl (by rw [cells2_length, List.length_take]; have := hrdW.2.length; omega) (cells2_one (hrdW.2.take T.length)) (by omega) (by omega) xe.size e0 ?_
                  intro v' w'' ho' hx' hf'
                  refine ⟨⟨by rw [put_size]; exact i1, I0.out⟩, by rw [eval_ne (by decide)]; exact i2, by rw [eval_ne (by decide)]; exact i3, by rw [eval_ne (by decide)]; exact i4, i5.step (by omega) (by omega) (by simp [HTAB.out]) (by simp [HTAB.out]), Held.new (by omega) ho', i7.step (by omega) (by decide) (by decide) (fun _ _ h => h.then hx'), i8.step (by omega) (by decide) (by decide) (fun _ _ h => own_then h hx'), i9.step (by omega) (by decide) (by decide) (fun _ _ h => own_then h hx'), fun _ => xe.then hx', fun hh => ?_⟩
                  rw [listed_set (by omega), if_neg (by decide), h20 (by decide)] at hh
                  cases hh
                · injection ho with ho
                  subst ho
                  have xe := i10 (h20 (by decide))
                  have cl := xe.cell (by simp) t0
                  have cl2 := xe.cell (by simp) t1
                  refine wpList_plain rfl fun K hK => ?_
                  unfold Oper.wp
                  simp [execOp, i2, i3, i4, cl, cl2]
                  go_simp
                  exact hK _ _ (step 8 79 (.agg #[.slice p1 k.length c1, .slice p2 v.length c2]) (by decide) (by decide) (by decide) (by decide) (by decide) (by decide) (by decide) (by decide) (by decide) (by decide) (by decide) (by decide) (by simp [HTAB.out]) (by simp [HTAB.out]) (h20 (by decide)))
                · injection ho with ho
                  subst ho
                  have e0 := i5 (8, 79, .agg #[.slice p1 k.length c1, .slice p2 v.length c2]) (by simp [HTAB.out]) (hdeps ⟨8, .data⟩ (by simp) rfl)
                  have xe := i10 (h20 (by decide))
                  have hx' := (Ext.refl [] w').alloc (.cells #[.slice p1 k.length c1, .slice p2 v.length c2] 95)
                  refine wpList_plain rfl fun K hK => ?_
                  unfold Oper.wp
                  simp [execOp, e0]
                  go_simp
                  refine hK (a.put (some 80) (.slice (some ⟨w'.heap.size, 0, none⟩) 1 1)) (w'.alloc (.cells #[.slice p1 k.length c1, .slice p2 v.length c2] 95)) ?_
                  refine ⟨⟨by rw [put_size]; exact i1, I0.out⟩, by rw [eval_ne (by decide)]; exact i2, by rw [eval_ne (by decide)]; exact i3, by rw [eval_ne (by decide)]; exact i4, i5.step (by omega) (by omega) (by simp [HTAB.out]) (by simp [HTAB.out]), i6.step (by omega) (by decide) (by decide) (fun _ _ h => own_then h hx'), Held.new (by omega) (Sl.lit 95 2 #[.slice p1 k.length c1, .slice p2 v.length c2] 1 (by decide) rfl w' (by decide)), i8.step (by omega) (by decide) (by decide) (fun _ _ h => own_then h hx'), i9.step (by omega) (by decide) (by decide) (fun _ _ h => own_then h hx'), fun _ => xe.then hx', fun hh => ?_⟩
                  rw [listed_set (by omega), if_neg (by decide), h20 (by decide)] at hh
                  cases hh
                · injection ho with ho
                  subst ho
                  have xe := i10 (h20 (by decide))
                  have hown := i6 (hdeps ⟨7, .data⟩ (by simp) rfl) hL
                  have hsl := i7 (hdeps ⟨9, .data⟩ (by simp) rfl) hL
                  refine app Tryz.underlying51 row_pair (by decide) hown hsl rfl (by simp [Value.oneCell']) (by omega) (by omega) xe.size rfl rfl ?_
                  intro v' w'' ho' hg' hat'
                  have hx' : Ext [] W w'' := xe.trans ((Ext.refl (a.eval (.tmp 78)).ownBlock.toList w').grown hg' (fun k hk _ => by simp [hk])) (fun b hb hlt => by have := own_fresh hown b (by simpa using hb); omega)
                  refine ⟨⟨by rw [put_size]; exact i1, I0.out⟩, by rw [eval_ne (by decide)]; exact i2, by rw [eval_ne (by decide)]; exact i3, by rw [eval_ne (by decide)]; exact i4, i5.step (by omega) (by omega) (by simp [HTAB.out]) (by simp [HTAB.out]), i6.step (by omega) (by decide) (by decide) (fun h => absurd rfl h), i7.step (by omega) (by decide) (by decide) (fun h => absurd rfl h), Held.new (by omega) ho', fun h1 _ => ?_, fun _ => hx', fun hh => ?_⟩
                  · rw [listed_set (by omega), if_neg (by decide)] at h1
                    have := hcl 17 _ rfl h1 ⟨10, .data⟩ (by simp) rfl
                    rw [hL] at this
                    cases this
                  · rw [listed_set (by omega), if_neg (by decide), h20 (by decide)] at hh
                    cases hh
                · injection ho with ho
                  subst ho
                  refine wpList_plain rfl fun K hK => ?_
                  unfold Oper.wp
                  simp [execOp, i2, i3, i4]
                  exact hK _ _ (step 11 82 (.pointer (some ⟨b, 0, none⟩)) (by decide) (by decide) (by decide) (by decide) (by decide) (by decide) (by decide) (by decide) (by decide) (by decide) (by decide) (by decide) (by simp [HTAB.out]) (by simp [HTAB.out]) (h20 (by decide)))
                · injection ho with ho
                  subst ho
                  have e0 := i5 (11, 82, .pointer (some ⟨b, 0, none⟩)) (by simp [HTAB.out]) (hdeps ⟨11, .data⟩ (by simp) rfl)
                  refine wpList_plain rfl fun K hK => ?_
                  unfold Oper.wp
                  simp [execOp, i2, i3, i4, e0]
                  exact hK _ _ (step 12 83 (.pointer (some ⟨b, 0, none⟩)) (by decide) (by decide) (by decide) (by decide) (by decide) (by decide) (by decide) (by decide) (by decide) (by decide) (by decide) (by decide) (by simp [HTAB.out]) (by simp [HTAB.out]) (h20 (by decide)))
                · injection ho with ho
                  subst ho
                  have e0 := i5 (12, 83, .pointer (some ⟨b, 0, none⟩)) (by simp [HTAB.out]) (hdeps ⟨12, .data⟩ (by simp) rfl)
                  refine wpList_plain rfl fun K hK => ?_
                  unfold Oper.wp
                  simp [execOp, i2, i3, i4, e0]
                  go_simp
                  exact hK _ _ (step 13 84 (.pointer (some ⟨b, 0, none⟩)) (by decide) (by decide) (by decide) (by decide) (by decide) (by decide) (by decide) (by decide) (by decide) (by decide) (by decide) (by decide) (by simp [HTAB.out]) (by simp [HTAB.out]) (h20 (by decide)))
                · injection ho with ho
                  subst ho
                  have e0 := i5 (13, 84, .pointer (some ⟨b, 0, none⟩)) (by simp [HTAB.out]) (hdeps ⟨13, .data⟩ (by simp) rfl)
                  have xe := i10 (h20 (by decide))
                  have cl := xe.cell (by simp) cW
                  refine wpList_plain rfl fun K hK => ?_
                  unfold Oper.wp
                  simp [execOp, i2, i3, i4, e0, cl]
                  go_simp
                  exact hK _ _ (step 14 85 (.slice vp T.length vc) (by decide) (by decide) (by decide) (by decide) (by decide) (by decide) (by decide) (by decide) (by decide) (by decide) (by decide) (by decide) (by simp [HTAB.out]) (by simp [HTAB.out]) (h20 (by decide)))
                · injection ho with ho
                  subst ho
                  refine wpList_plain rfl fun K hK => ?_
                  unfold Oper.wp
                  simp [execOp, i2, i3, i4]
                  exact hK _ _ (step 15 86 (.int .i64 T.length) (by decide) (by decide) (by decide) (by decide) (by decide) (by decide) (by decide) (by decide) (by decide) (by decide) (by decide) (by decide) (by simp [HTAB.out]) (by simp [HTAB.out]) (h20 (by decide)))
                · injection ho with ho
                  subst ho
                  have e0 := i5 (14, 85, .slice vp T.length vc) (by simp [HTAB.out]) (hdeps ⟨14, .data⟩ (by simp) rfl)
                  have e1 := i5 (15, 86, .int .i64 T.length) (by simp [HTAB.out]) (hdeps ⟨15, .data⟩ (by simp) rfl)
                  refine wpList_plain rfl fun K hK => ?_
                  unfold Oper.wp
                  have hsl := r8 w'
                  simp [execOp, e0, e1, hsl]
                  exact hK _ _ (step 16 87 (.slice p8 0 (vc - T.length)) (by decide) (by decide) (by decide) (by decide) (by decide) (by decide) (by decide) (by decide) (by decide) (by decide) (by decide) (by decide) (by simp [HTAB.out]) (by simp [HTAB.out]) (h20 (by decide)))
                · injection ho with ho
                  subst ho
                  have xe := i10 (h20 (by decide))
                  have h10 := hdeps ⟨10, .data⟩ (by simp) rfl
                  have hown := i8 h10 hL
                  have e0 := i5 (16, 87, .slice p8 0 (vc - T.length)) (by simp [HTAB.out]) (hdeps ⟨16, .data⟩ (by simp) rfl)
                  have hsl := hS8.then xe
                  refine app Tryz.underlying51 row_pair (by decide) hown hsl (by rw [cells2_length, List.length_drop]; have := hrdW.2.length; omega) (cells2_one (hrdW.2.drop T.length)) (by omega) (by omega) xe.size rfl e0 ?_
                  intro v' w'' ho' hg' hat'
                  rw [show T.length + 1 + 0 = T.length + 1 by omega] at ho'
                  have hx' : Ext [] W w'' := xe.trans ((Ext.refl (a.eval (.tmp 81)).ownBlock.toList w').grown hg' (fun k hk _ => by simp [hk])) (fun b hb hlt => by have := own_fresh hown b (by simpa using hb); omega)
                  refine ⟨⟨by rw [put_size]; exact i1, I0.out⟩, by rw [eval_ne (by decide)]; exact i2, by rw [eval_ne (by decide)]; exact i3, by rw [eval_ne (by decide)]; exact i4, i5.step (by omega) (by omega) (by simp [HTAB.out]) (by simp [HTAB.out]), fun _ h2 => ?_, fun _ h2 => ?_, i8.step (by omega) (by decide) (by decide) (fun h => absurd rfl h), Held.new (by omega) ho', fun _ => hx', fun hh => ?_⟩
                  · rw [listed_set (by omega), if_neg (by decide), h10] at h2; cases h2
                  · rw [listed_set (by omega), if_neg (by decide), h10] at h2; cases h2
                  · rw [listed_set (by omega), if_neg (by decide), h20 (by decide)] at hh
                    cases hh
                · injection ho with ho
                  subst ho
                  have e0 := i5 (0, 71, .pointer (some ⟨b, 0, none⟩)) (by simp [HTAB.out]) (hdeps ⟨0, .data⟩ (by simp) rfl)
                  refine wpList_plain rfl fun K hK => ?_
                  unfold Oper.wp
                  simp [execOp, i2, i3, i4, e0]
                  exact hK _ _ (step 18 89 (.pointer (some ⟨b, 0, none⟩)) (by decide) (by decide) (by decide) (by decide) (by decide) (by decide) (by decide) (by decide) (by decide) (by decide) (by decide) (by decide) (by simp [HTAB.out]) (by simp [HTAB.out]) (h20 (by decide)))
                · injection ho with ho
                  subst ho
                  have e0 := i5 (18, 89, .pointer (some ⟨b, 0, none⟩)) (by simp [HTAB.out]) (hdeps ⟨18, .data⟩ (by simp) rfl)
                  refine wpList_plain rfl fun K hK => ?_
                  unfold Oper.wp
                  simp [execOp, i2, i3, i4, e0]
                  go_simp
                  exact hK _ _ (step 19 90 (.pointer (some ⟨b, 0, none⟩)) (by decide) (by decide) (by decide) (by decide) (by decide) (by decide) (by decide) (by decide) (by decide) (by decide) (by decide) (by decide) (by simp [HTAB.out]) (by simp [HTAB.out]) (h20 (by decide)))
                · injection ho with ho
                  subst ho
                  have xe := i10 hL
                  have h17 := hdeps ⟨17, .data⟩ (by simp) rfl
                  have h10 := hdeps ⟨10, .phase⟩ (by simp) rfl
                  have hown := i9 h17 hL
                  have e0 := i5 (19, 90, .pointer (some ⟨b, 0, none⟩)) (by simp [HTAB.out]) (hdeps ⟨19, .data⟩ (by simp) rfl)
                  obtain ⟨rp, rc, e1, _, _⟩ := own_size hown
                  rw [e1] at hown
                  have hb' := (xe.block b (by have := hx2.size; omega) (by simp)).trans hbW
                  have hfz := frozen_of_row w' b 0 _ _ hb'
                  have cl := xe.cell (by simp) cW
                  have hcells : (cells2 (hs.take T.length) ++ [.slice p1 k.length c1, .slice p2 v.length c2]) ++ cells2 (hs.drop T.length) = cells2 (hs.take T.length ++ (.slice p1 k.length c1, .slice p2 v.length c2) :: hs.drop T.length) := by
                    rw [cells2_append, List.append_assoc]
                    rfl
                  rw [hcells] at hown
                  have hrel : Rel2 (PairH w') (hs.take T.length ++ (.slice p1 k.length c1, .slice p2 v.length c2) :: hs.drop T.length) (tput T k v) := by
                    rw [HPUT.out]
                    exact ((hrdW.2.take T.length).append (Rel2.cons hprW (hrdW.2.drop T.length))).imp fun _ _ q => q.ext xe (by simp)
                  have hlen : (tput T k v).length = T.length + 1 := by rw [HPUT.out]; simp only [List.length_append, List.length_cons, List.length_take, List.length_drop]; omega
                  obtain ⟨q1, q2⟩ := IsTab.set hb' (show RdP w' (.slice rp (T.length + 1) rc) _ (tput T k v) from ⟨by rw [hlen]; exact Sl.of_own hown (by decide), hrel⟩)
                  refine wpList_plain rfl fun K hK => ?_
                  unfold Oper.wp
                  simp [execOp, e0, e1]
                  go_simp
                  refine hK a (w'.setCell ⟨b, 0, none⟩ (.slice rp (T.length + 1) rc)) ?_
                  refine ⟨⟨i1, I0.out⟩, i2, i3, i4, fun y hy hh => ?_, fun _ h2 => ?_, fun _ h2 => ?_, fun _ h2 => ?_, fun _ h2 => ?_, fun hh => ?_, fun _ => ⟨q1, (xe.mono (by simp)).same q2⟩⟩
                  · have hy20 : ¬ 20 = y.1 := by
                      have := HTAB.out ▸ hy
                      simp at this
                      rcases this with rfl | rfl | rfl | rfl | rfl | rfl | rfl | rfl | rfl | rfl | rfl | rfl | rfl | rfl | rfl | rfl <;> simp
                    rw [listed_set (by omega), if_neg hy20] at hh
                    exact i5 y hy hh
                  · rw [listed_set (by omega), if_neg (by decide), h10] at h2; cases h2
                  · rw [listed_set (by omega), if_neg (by decide), h10] at h2; cases h2
                  · rw [listed_set (by omega), if_neg (by decide), h17] at h2; cases h2
                  · rw [listed_set (by omega), if_pos rfl] at h2; cases h2
                  · rw [listed_set (by omega), if_pos rfl] at hh; cases hh
end Go.Proofs.YtbbfgbkbdhghbaaGreatDoor
