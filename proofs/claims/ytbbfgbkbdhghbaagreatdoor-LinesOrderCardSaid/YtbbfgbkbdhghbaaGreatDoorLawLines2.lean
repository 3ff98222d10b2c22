/-
  exchequerlaw23.LinesOrder answers true.
-/
import Derived.Test.YtbbfgbkbdhghbaaGreatDoorLawLines
import Derived.Test.YtbbfgbkbdhghbaaGreatDoorLinesP
import Derived.Test.YtbbfgbkbdhghbaaGreatDoorStepApp
set_option linter.unusedVariables false
set_option linter.unusedSimpArgs false
namespace Go.Proofs.YtbbfgbkbdhghbaaGreatDoor
open Go.RowKit
variable {w : World} {U : TypeId}

theorem plain_Lines {v : Value} {l : List Ln} (hl : Lns w U v l) : Calls Tryz.prog 5 #[v] w fun e w' => e = .returned (.bool (decide ((l.length : Int) ≤ 30))) ∧ w = w' := by
  obtain ⟨p, c, rfl, g1, g2⟩ := Sl.shape hl
  go_enter Tryz.func5, Tryz.ntmps5
  go_wp2_with fail
  go_ret
  exact ⟨rfl, rfl⟩

theorem flat_take (l : List Ln) : ∀ k, (l.flatMap lnC).take (k * 4) = (l.take k).flatMap lnC := by
  induction l with
  | nil => intro k; simp
  | cons a l ih =>
    intro k
    cases k with
    | zero => simp
    | succ k =>
      have e : (k + 1) * 4 = k * 4 + 1 + 1 + 1 + 1 := by omega
      have := ih k
      simp only [List.flatMap_cons, List.take_succ_cons, lnC, e, List.cons_append, List.nil_append] at this ⊢
      rw [this]
theorem flat_drop (l : List Ln) : ∀ k, (l.flatMap lnC).drop (k * 4) = (l.drop k).flatMap lnC := by
  induction l with
  | nil => intro k; simp
  | cons a l ih =>
    intro k
    cases k with
    | zero => simp
    | succ k =>
      have e : (k + 1) * 4 = k * 4 + 1 + 1 + 1 + 1 := by omega
      have := ih k
      simp only [List.flatMap_cons, List.drop_succ_cons, lnC, e, List.cons_append, List.nil_append] at this ⊢
      rw [this]
theorem Lns.take {b off m c : Nat} {l : List Ln} (h : Lns w U (.slice (some ⟨b, off, none⟩) m c) l) (k : Nat) (hk : k ≤ l.length) : Lns w U (.slice (some ⟨b, off, none⟩) k c) (l.take k) := by
  obtain ⟨p', c', e, h1, h2, h3⟩ := h
  injection e with e1 e2 e3
  subst e1; subst e3
  have hl : (l.take k).length = k := by rw [List.length_take]; omega
  refine ⟨_, _, by rw [hl], by omega, h2, ?_⟩
  rcases Nat.eq_zero_or_pos k with rfl | hp
  · left; simp
  · right
    rcases h3 with ⟨h3, _⟩ | ⟨h3, b', off', e, hr⟩
    · omega
    · injection e with e; injection e with e1 e2; subst e1; subst e2
      have hlen : (l.flatMap lnC).length = l.length * 4 := by
        have := flatten_len (k := 4) (l.map lnC) (fun c hc => by obtain ⟨x, _, rfl⟩ := List.mem_map.1 hc; rfl)
        rw [List.flatMap_def, this, List.length_map]
      refine ⟨by omega, _, _, rfl, ?_⟩
      have := hr.sub 0 (k * 4) (by rw [hlen]; omega)
      rw [Nat.add_zero, List.drop_zero, flat_take] at this
      exact this
theorem Lns.drop {b off m c : Nat} {l : List Ln} (h : Lns w U (.slice (some ⟨b, off, none⟩) m c) l) (k : Nat) (hk : k < l.length) : Lns w U (.slice (some ⟨b, off + k * 4, none⟩) (l.length - k) (c - k)) (l.drop k) := by
  obtain ⟨p', c', e, h1, h2, h3⟩ := h
  injection e with e1 e2 e3
  subst e1; subst e3
  rcases h3 with ⟨h3, _⟩ | ⟨h3, b', off', e, hr⟩
  · omega
  · injection e with e; injection e with e1 e2; subst e1; subst e2
    have hlen : (l.flatMap lnC).length = l.length * 4 := by
      have := flatten_len (k := 4) (l.map lnC) (fun c hc => by obtain ⟨x, _, rfl⟩ := List.mem_map.1 hc; rfl)
      rw [List.flatMap_def, this, List.length_map]
    refine ⟨_, _, by rw [List.length_drop], by rw [List.length_drop]; omega, by omega, .inr ⟨by rw [List.length_drop]; omega, _, _, rfl, ?_⟩⟩
    have := hr.sub (k * 4) ((l.length - k) * 4) (by rw [hlen, Nat.sub_mul]; omega)
    rw [List.take_of_length_le (by rw [List.length_drop, hlen, Nat.sub_mul]; omega), flat_drop] at this
    exact this

set_option maxHeartbeats 2000000 in
theorem law_LinesOrder {v : Value} {l : List Ln} (hl : Lns w U v l) (by_ : Int) (hb : 0 ≤ by_ ∧ by_ ≤ 255) :
    Calls Tryz.prog 4 #[v, .int .u8 by_] w fun e w' => e = .returned (.bool true) ∧ Ext [] w w' := by
  have hPl := plain_Lines hl
  obtain ⟨p, c, rfl, g1, g2⟩ := Sl.shape hl
  by_cases h30 : (l.length : Int) ≤ 30
  · rw [decide_eq_true h30] at hPl
    by_cases h0 : l.length = 0
    · have h0' : ((l.length : Int) == 0) = true := by simp [h0]
      clear h0
      go_enter Tryz.func4, Tryz.ntmps4
      go_wp2_with (first
        | (go_at_call 5; refine hPl.mono ?_; rintro e w1 ⟨rfl, rfl⟩)
        | (go_at_call 6; refine (law23_awake w).mono ?_; rintro e w1 ⟨rfl, x1⟩))
      go_ret
      exact ⟨rfl, x1⟩
    · have h0' : ((l.length : Int) == 0) = false := by simpa using h0
      obtain ⟨b, off, c', hpp, _⟩ := Sl.at hl (by omega)
      injection hpp with hpp _ hc'
      subst hpp; subst hc'
      have hbv := hb
      have hmod : 0 ≤ by_ % (l.length : Int) ∧ by_ % (l.length : Int) < (l.length : Int) := ⟨Int.emod_nonneg _ (by omega), Int.emod_lt_of_pos _ (by omega)⟩
      obtain ⟨k, hk⟩ : ∃ k : Nat, by_ % (l.length : Int) = (k : Int) := ⟨(by_ % (l.length : Int)).toNat, by omega⟩
      go_enter Tryz.func4, Tryz.ntmps4
      go_wp2_with (go_at_call 5; refine hPl.mono ?_; rintro e w1 ⟨rfl, rfl⟩)
      rw [hk]
      have hkl : k < l.length := by omega
      have q1 : (k : Int) < (l.length : Int) := by omega
      have q2 : k < c := by omega
      have q6 : ¬ c = k := by omega
      have q3 : (k : Int) ≤ (l.length : Int) := by omega
      have q4 : k ≤ c := by omega
      have q5 : k ≤ l.length := by omega
      have hd := (hl.drop k hkl).then (Ext.refl [] w).drew
      have ht := (hl.take k (by omega)).then (Ext.refl [] w).drew
      have htl : ((l.take k).flatMap lnC).length = k * 4 := by
        have := flatten_len (k := 4) ((l.take k).map lnC) (fun c hc => by obtain ⟨x, _, rfl⟩ := List.mem_map.1 hc; rfl)
        rw [List.flatMap_def, this, List.length_map, List.length_take]; congr 1; omega
      have hto := lnC_one (l.take k)
      have hdl : (l.drop k).length = l.length - k := by simp
      have htk : (l.take k).length = k := by rw [List.length_take]; omega
      unfold Lns at ht
      rw [htk] at ht
      clear hmod hk
      have hlk : l.length - k ≤ 30 := by omega
      have hdl2 : (l.drop k).length ≤ 1048576 := by omega
      have hn1 : ((l.drop k).length + k) * 32 ≤ 140737488355328 := by omega
      have hn2 : (l.drop k).length + k ≤ 9223372036854775807 := by omega
      set_option maxRecDepth 100000 in
      go_region_held3 (fun W => 0 = 0) (first | rfl)
        (first
          | (refine step_app rfl (.tmp 25) (.tmp 28) 23 rfl Tryz.underlying23 row_line (by decide) (by simp [Act.eval, Act.put]; done) o1.own (by simp [Act.eval, Act.put]; done) (ht.then x1) htl hto hn1 hn2 x1.size ?_; intro v2 w2 o2 g2')
          | (go_at_call 18; refine (lines_Clone hd hdl2).mono ?_; rintro e w1 ⟨r1, rfl, o1, x1⟩))
      have hfr := own_fresh o1.own
      have x2 : Ext [] w w2 := ((Ext.refl [] w).drew.then x1).grown g2' (fun b hb hl => by have := hfr b hb; exact absurd hl (Nat.not_lt.2 this))
      have om : OwnL w.heap.size w2 v2 (l.drop k ++ l.take k) := by
        unfold OwnL
        rw [List.length_append, List.flatMap_append, htk]
        exact o2
      have hml : (l.drop k ++ l.take k).length ≤ 1048576 := by simp; omega
      have hll : l.length ≤ 1048576 := by omega
      have hR := lines_Reverse om hml
      have hfr2 := own_fresh om
      have hPf : fundsL (l.drop k ++ l.take k).reverse = fundsL l := fundsL_perm ((List.reverse_perm _).trans (List.perm_append_comm.trans (by rw [List.take_append_drop])))
      have HP := Lib.hid hPf
      have hl0 := hl
      clear hd ht htl hto hdl htk hPf hn1 hn2 o1 o2 hl
      go_wp2_with fail
      refine hR.mono ?_
      rintro e w3 ⟨rfl, o3, x3⟩
      have y3 : Ext [] w w3 := x2.trans x3 (fun b hb hl => by have := hfr2 b (by simpa using hb); exact absurd hl (Nat.not_lt.2 this))
      dsimp only
      go_wp2_with fail
      refine (lines_Funds (hl0.then y3) hll).mono ?_
      rintro e w4 ⟨r4, rfl, o4, x4⟩
      have o3' := (OwnL.rd o3).then x4
      have hml2 : (l.drop k ++ l.take k).reverse.length ≤ 1048576 := by rw [List.length_reverse]; exact hml
      dsimp only
      go_wp2_with fail
      refine (lines_Funds o3' hml2).mono ?_
      rintro e w5 ⟨r5, rfl, o5, x5⟩
      have hEq := lines_EqualS ((OwnL.rd o4).then x5) (OwnL.rd o5)
      rw [HP.out, beq_self_eq_true] at hEq
      dsimp only
      go_wp2_with (first
        | (go_at_call 13; refine hEq.mono ?_; rintro e w6 ⟨rfl, x6⟩))
      refine (lines_IsSorted ((OwnL.rd o4).then (x5.then x6)) (fundsL_rise l)).mono ?_
      rintro e w7 ⟨rfl, x7⟩
      dsimp only
      go_wp2_with (first
        | (go_at_call 6; refine (law23_awake w7).mono ?_; rintro e w8 ⟨rfl, x8⟩))
      go_ret
      exact ⟨rfl, ((((y3.then x4).then x5).then x6).then x7).then x8⟩
  · rw [decide_eq_false h30] at hPl
    go_enter Tryz.func4, Tryz.ntmps4
    go_wp2_with (first
      | (go_at_call 5; refine hPl.mono ?_; rintro e w1 ⟨rfl, rfl⟩)
      | (go_at_call 6; refine (law23_awake w).mono ?_; rintro e w1 ⟨rfl, x1⟩))
    go_ret
    exact ⟨rfl, x1⟩
end Go.Proofs.YtbbfgbkbdhghbaaGreatDoor
