/-
  view.keep: the memory is as the table now.
-/
import Derived.Test.YthifoaclmfbhdaaGreatDoorKeysV
set_option linter.unusedVariables false
set_option linter.unusedSimpArgs false
namespace Go.Proofs.YthifoaclmfbhdaaGreatDoor
open Go.RowKit

theorem Ents.del {α : Type} {R : Value → α → Prop} {es : List (Bytes × Value)} {xs : List (Bytes × α)} (h : Ents R es xs) (k : Bytes) : Ents R (adel es k) (adel xs k) := by
  refine Ents.ind (P := fun es xs => Ents R (adel es k) (adel xs k)) (Ents.nil R) ?_ h
  intro p q es xs h1 h2 _ ih
  unfold adel at ih ⊢
  by_cases e : p.1 = k
  · have e' : q.1 = k := h1 ▸ e
    simp only [List.filter_cons, e, e', ne_eq, not_true_eq_false, decide_false, Bool.false_eq_true, if_false]
    exact ih
  · have e' : ¬ q.1 = k := h1 ▸ e
    simp only [List.filter_cons, e, e', ne_eq, not_false_eq_true, decide_true, if_true]
    exact Ents.cons h1 h2 ih
theorem alook_adel {α : Type} (xs : List (Bytes × α)) (k k' : Bytes) : alook (adel xs k) k' = if k = k' then none else alook xs k' := by
  unfold alook adel
  induction xs with
  | nil => simp
  | cons p xs ih =>
    by_cases e : p.1 = k
    · simp only [List.filter_cons, e, ne_eq, not_true_eq_false, decide_false, Bool.false_eq_true, if_false]
      rw [ih]
      by_cases e' : k = k'
      · simp [e']
      · simp [e', List.find?_cons, e]
    · simp only [List.filter_cons, e, ne_eq, not_false_eq_true, decide_true, if_true, List.find?_cons]
      by_cases e' : p.1 = k'
      · have : ¬ k = k' := fun h => e (e'.trans h.symm)
        simp [e', this]
      · simpa [e'] using ih
theorem adel_length {α : Type} (xs : List (Bytes × α)) (k : Bytes) : (adel xs k).length ≤ xs.length := List.length_filter_le _ _

theorem mem_alook {β : Type} {es : List (Bytes × β)} {k : Bytes} {v : β} (hn : (es.map (·.1)).Nodup) (h : (k, v) ∈ es) : alook es k = some v := by
  induction es with
  | nil => simp at h
  | cons p es ih =>
    simp only [List.map_cons, List.nodup_cons] at hn
    rcases List.mem_cons.1 h with rfl | h
    · simp [alook]
    · have hne : p.1 ≠ k := fun e => hn.1 (List.mem_map.2 ⟨_, h, e.symm⟩)
      have := ih hn.2 h
      simp only [alook, List.find?_cons, hne, decide_false] at this ⊢
      exact this
theorem mem_of_alook {β : Type} {es : List (Bytes × β)} {k : Bytes} {v : β} (h : alook es k = some v) : (k, v) ∈ es := by
  simp only [alook, Option.map_eq_some_iff] at h
  obtain ⟨p, hp, e⟩ := h
  have h1 := List.find?_some hp
  have h2 := List.mem_of_find?_eq_some hp
  simp at h1
  rw [← e, ← h1]
  exact h2
theorem alook_none_iff {β : Type} {es : List (Bytes × β)} {k : Bytes} : alook es k = none ↔ k ∉ es.map (·.1) := by
  simp only [alook, Option.map_eq_none_iff, List.find?_eq_none, List.mem_map, not_exists, not_and]
  constructor
  · intro h p hp e; exact (h p hp) (by simpa using e)
  · intro h p hp; simpa using h p hp

theorem Ext.cell {M : List Nat} {w w' : World} {b off : Nat} {v : Value} (e : Ext M w w') (hb : b ∉ M) (h : w.cell? ⟨b, off, none⟩ = some v) : w'.cell? ⟨b, off, none⟩ = some v := by
  have hl : b < w.heap.size := by
    by_cases hl : b < w.heap.size
    · exact hl
    · simp [World.cell?, Array.getElem?_eq_none (Nat.le_of_not_lt hl)] at h
  rw [World.cell?, e.block b hl hb]
  exact h

theorem MapIs.one {κ : Type} [DecidableEq κ] {E : KeyEnc κ} {w : World} {b : Nat} {es : List (κ × Value)} {T : TypeId} (h : MapIs E w b es) : ∀ x ∈ [b], ∀ cs fr, w.heap[x]? ≠ some (.cells cs T fr) := by
  intro x hx cs fr
  simp at hx
  subst hx
  exact h.ne_cells _ _ _
theorem Iter.nodup {κ : Type} [DecidableEq κ] {E : KeyEnc κ} {w : World} {b r : Nat} {es left : List (κ × Value)} (h : Iter E w r b es left) : (left.map (·.1)).Nodup := by
  have hn := h.map.nodup
  obtain ⟨a, c, s, h1, h2, h3, h4, h5⟩ := h
  have hsub : ((leftOf a s).toList.map (fun x => (x.key, x.val))).Sublist (a.toList.map fun x => (x.key, x.val)) := by
    unfold leftOf
    rw [Array.toList_filter]
    exact List.filter_sublist.map _
  rw [h5, h3] at hsub
  have hs2 := hsub.map Prod.fst
  simp only [List.map_map, Function.comp_def] at hs2
  have e : ∀ l : List (κ × Value), l.map (fun x => E.enc x.1) = (l.map (·.1)).map E.enc := fun l => by simp
  rw [e, e] at hs2
  have h6 : ((es.map (·.1)).map E.enc).Nodup := List.pairwise_map.2 (hn.imp fun h e => h (E.inj _ _ e))
  exact List.Pairwise.imp (S := fun a b => a ≠ b) (fun h e => h (by rw [e])) (List.pairwise_map.1 (hs2.nodup h6))

/-- the memory as it is to be -/
def KeptV (w : World) (V : VW) (n : Nat) (now : Tbl) : Prop := ∃ me mex, MapIs strEnc w V.m me ∧ Ents (Bs 5 w) me mex ∧ mex.length ≤ n ∧ ∀ k, tget now k = alook mex k

theorem view_keep {w : World} {V : VW} {n : Nat} {was now : Tbl} (h : IsView w V n was now) :
    Calls Tryz.prog 29 #[.pointer (some ⟨V.s, 0, none⟩)] w fun e w' => e = .returned (.tuple #[]) ∧ KeptV w' V n now ∧ Ext [V.m] w w' := by
  obtain ⟨c0, c1, c2, c3⟩ := h.cell
  have hnm := h.ne
  have hlt := h.lt
  obtain ⟨ch, me0, chx, mex0, hc, hm0, ec, em0, hn, _, hnow, _⟩ := h.maps
  have hnd := hc.nodup
  have hcb := hc.ne_cells
  have hmb := hm0.ne_cells
  have hcl := ec.length
  have hsne : V.s ≠ V.m := fun e => hmb _ _ _ (e ▸ h.cells)
  obtain ⟨hr, hit⟩ := Iter.start (P := Tryz.prog) hc Tryz.underlying25
  have x1 := (Ext.refl [V.m] w).alloc (.mapIter (some V.c) (hc.choose_spec.choose) #[] (hc.choose_spec.choose))
  have hs1 : w.heap.size < (w.alloc (.mapIter (some V.c) (hc.choose_spec.choose) #[] (hc.choose_spec.choose))).heap.size := by simp
  have hm1 := hm0.ext (Ext.alloc (Ext.refl [] w) (.mapIter (some V.c) (hc.choose_spec.choose) #[] (hc.choose_spec.choose))) (by simp)
  have em1 := em0.imp fun _ _ hx' => Bs.then hx' (Ext.alloc (Ext.refl [] w) (.mapIter (some V.c) (hc.choose_spec.choose) #[] (hc.choose_spec.choose)))
  generalize (w.alloc (.mapIter (some V.c) (hc.choose_spec.choose) #[] (hc.choose_spec.choose))) = w1 at hr hit x1 hs1 hm1 em1
  have HN := Lib.hid hnow
  have HL := Lib.hid hn
  have HC := Lib.hid hcl
  have HX := Lib.hid ec
  have HD := Lib.hid hnd
  have HH := Lib.hid h
  clear hnow hn hcl ec hnd h
  go_enter Tryz.func29, Tryz.ntmps29
  go_wp2_with fail
  go_loopw [] (fun wr => ∃ left me mex, Iter strEnc wr w.heap.size V.c ch left ∧ MapIs strEnc wr V.m me ∧ Ents (Bs 5 wr) me mex ∧ mex.length + left.length ≤ mex0.length + ch.length ∧
     (∀ k, alook mex k = if k ∈ left.map (·.1) then alook mex0 k else tget now k) ∧ Ext [V.m] w wr ∧ w.heap.size < wr.heap.size) (fun wr => iterLeft wr w.heap.size)
  case atStart =>
    refine ⟨ch, me0, mex0, hit, hm1, em1, Nat.le_refl _, fun k => ?_, x1, hs1⟩
    by_cases hk : k ∈ ch.map (·.1)
    · simp only [hk, if_true]
    · simp only [hk, if_false]
      have := alook_none_iff.2 hk
      rcases HX.out.look k with ⟨_, h2⟩ | ⟨_, _, h1, _⟩
      · rw [HN.out, h2]
      · rw [this] at h1; cases h1
  case round =>
    obtain ⟨left, me, mex, hi, hm, em, hlen, hall, hx, hsz⟩ := hrel
    have HA := Lib.hid hall
    have HE := Lib.hid hlen
    clear hall hlen hr
    rcases hi.next (P := Tryz.prog) 0 with ⟨h1, h2⟩ | ⟨pre, k, v, post, w2, h1, h2, h3, h4, h5, h6, h7⟩
    · have H1 := Lib.hid h1
      clear h1
      go_wp2_with fail
      go_end0
      refine ⟨rfl, ⟨me, mex, hm, em, ?_, fun k => ?_⟩, hx⟩
      · have := HE.out; have := HC.out; have := HL.out; omega
      · rw [HA.out, H1.out]; simp
    · change _ = Result.ok (Value.tuple #[Value.bool true, Value.string (str k), v]) w2 at h3
      change _ = Result.ok (Value.tuple #[Value.string (str k), v]) w2 at h4
      have hk := mem_alook HD.out h2
      have x2 : Ext [V.m] w w2 := hx.trans h6 (by simp)
      have hm2 := hm.ext h6 (by simp; omega)
      have hib : ∀ b ∈ [w.heap.size], ∀ cs fr, wr.heap[b]? ≠ some (.cells cs 5 fr) := by
        intro b hb cs fr
        simp at hb
        subst hb
        exact hi.ne_cells _ _ _
      have em2 := em.imp fun _ _ hx' => Sl.ext hx' h6 hib
      have hsz2 : w.heap.size < w2.heap.size := by omega
      have H1 := Lib.hid h1
      have hmb2 : ∀ b ∈ [V.m], ∀ cs fr, w.heap[b]? ≠ some (.cells cs 5 fr) := by
        intro b hb cs fr
        simp at hb
        subst hb
        exact hmb _ _ _
      rcases HX.out.look k with ⟨e1, _⟩ | ⟨v', x, e1, e2, hsv⟩
      · rw [hk] at e1; cases e1
      · rw [hk] at e1
        injection e1 with e1
        subst e1
        have E2 := Lib.hid e2
        have hsv2 := hsv.ext x2 hmb2
        have cc0 : w2.cell? ⟨V.s, 0, none⟩ = some (.map (some V.c)) := by rw [World.cell?, x2.block V.s hlt.1 (by simpa using hsne)]; exact c0
        have cc2 : w2.cell? ⟨V.s, 2, none⟩ = some (.map (some V.m)) := by rw [World.cell?, x2.block V.s hlt.1 (by simpa using hsne)]; exact c2
        clear h1 e2 h7 hk h2 hsv
        cases x with
        | none =>
          simp only [ShapeV] at hsv2
          subst hsv2
          have xa := (Ext.refl [] w2).alloc (.cells #[.slice none 0 0, .bool true] 50)
          obtain ⟨w3, hu, hm3, hx3, hs3⟩ := (hm2.ext xa (by simp)).del (P := Tryz.prog) (ty := 0) Tryz.underlying27 Tryz.underlying9 k
          change (Builtin.delete_ _ 0 #[_, Value.string (str k)]).run _ _ = _ at hu
          have cz := xa.cell (by simp) cc2
          have hmbx := MapIs.one (T := 5) (hm2.ext xa (by simp))
          iterate 80 (first | at_builtin | go_step | skip)
          go_roundw
          case rel =>
            refine ⟨pre ++ post, adel me k, adel mex k, (h5.ext xa (by simp) (by simp)).ext hx3 (by simpa using hnm) (by simp; omega), hm3, (((em2.imp fun _ _ q => Bs.then q xa).imp fun _ _ q => Sl.ext q hx3 hmbx).del k), ?_, fun k' => ?_, (x2.trans xa (by simp)).trans hx3 (by simp), ?_⟩
            · have := HE.out; have q := congrArg List.length H1.out; simp at q; have := adel_length mex k; simp at this ⊢; omega
            · rw [alook_adel, HA.out, H1.out]
              by_cases e : k = k'
              · subst e
                have hk' : k ∉ (pre ++ post).map (·.1) := by
                  have := hi.nodup
                  rw [H1.out] at this
                  simp only [List.map_append, List.map_cons, List.nodup_append, List.nodup_cons] at this
                  simp only [List.map_append, List.mem_append, not_or]
                  exact ⟨fun hh => this.2.2 _ hh _ (.head _) rfl, this.2.1.1⟩
                simp only [if_true, hk', if_false]
                rw [HN.out, E2.out]
              · simp only [e, if_false]
                have e' : k' ≠ k := fun h => e h.symm
                have : (k' ∈ (pre ++ (k, .agg #[.slice none 0 0, .bool true]) :: post).map (·.1)) ↔ k' ∈ (pre ++ post).map (·.1) := by
                  simp [e']
                simp only [this]
            · have := xa.size; omega
          case measure =>
            rw [((h5.ext xa (by simp) (by simp)).ext hx3 (by simpa using hnm) (by simp; omega)).left_eq, hi.left_eq, H1.out]
            simp
        | some bs =>
          obtain ⟨vb, rfl, hb⟩ := hsv2
          obtain ⟨vp, vc, rfl, _, _⟩ := hb.shape
          have xa := ((Ext.refl [] w2).alloc (.cells #[.slice vp bs.length vc, .bool false] 50)).drew
          obtain ⟨w3, hu, hm3, hx3, hs3⟩ := (hm2.ext xa (by simp)).put (P := Tryz.prog) Tryz.underlying27 Tryz.underlying9 k (.slice vp bs.length vc)
          change (Instr.mapUpdate _ _ (Value.string (str k)) _).run _ _ = _ at hu
          have cz := xa.cell (by simp) cc2
          have hmbx := MapIs.one (T := 5) (hm2.ext xa (by simp))
          iterate 80 (first | at_builtin | go_step | skip)
          go_region
          all_goals go_wp2_with fail
          all_goals go_roundw
          case rel =>
            refine ⟨pre ++ post, aput me k (.slice vp bs.length vc), aput mex k bs, (h5.ext xa (by simp) (by simp)).ext hx3 (by simpa using hnm) (by simp; omega), hm3, (((em2.imp fun _ _ q => Bs.then q xa).imp fun _ _ q => Sl.ext q hx3 hmbx).put k (show Bs _ w3 _ bs from (hb.then xa).sl.ext hx3 hmbx)), ?_, fun k' => ?_, (x2.trans xa (by simp)).trans hx3 (by simp), ?_⟩
            · have := HE.out; have q := congrArg List.length H1.out; simp at q; have := aput_length mex k bs; simp at this ⊢; omega
            · rw [alook_aput, HA.out, H1.out]
              by_cases e : k = k'
              · subst e
                have hk' : k ∉ (pre ++ post).map (·.1) := by
                  have := hi.nodup
                  rw [H1.out] at this
                  simp only [List.map_append, List.map_cons, List.nodup_append, List.nodup_cons] at this
                  simp only [List.map_append, List.mem_append, not_or]
                  exact ⟨fun hh => this.2.2 _ hh _ (.head _) rfl, this.2.1.1⟩
                simp only [if_true, hk', if_false]
                rw [HN.out, E2.out]
              · simp only [e, if_false]
                have e' : k' ≠ k := fun h => e h.symm
                have : (k' ∈ (pre ++ (k, .agg #[.slice vp bs.length vc, .bool false]) :: post).map (·.1)) ↔ k' ∈ (pre ++ post).map (·.1) := by
                  simp [e']
                simp only [this]
            · have := xa.size; omega
          case measure =>
            rw [((h5.ext xa (by simp) (by simp)).ext hx3 (by simpa using hnm) (by simp; omega)).left_eq, hi.left_eq, H1.out]
            simp
end Go.Proofs.YthifoaclmfbhdaaGreatDoor
