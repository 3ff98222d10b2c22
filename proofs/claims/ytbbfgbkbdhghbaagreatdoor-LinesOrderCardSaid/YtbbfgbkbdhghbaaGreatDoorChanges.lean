/-
  What was changed, as lists: plain laws.
-/
import Derived.Test.YtbbfgbkbdhghbaaGreatDoorKeep
set_option linter.unusedVariables false
set_option linter.unusedSimpArgs false
namespace Go.Proofs.YtbbfgbkbdhghbaaGreatDoor
open Go.RowKit

/-! ### a string's bytes, anew -/
def cvW (W : World) (k : Bytes) : World := Lib.bytesWorld W 5 (str k)
def cvV (W : World) (k : Bytes) : Value := .slice (some ⟨W.heap.size, 0, none⟩) k.length (grownCap W k.length 0 5)
theorem run_cvb (k : Bytes) (W : World) : (convert 9 63 (.string (str k))).run Tryz.prog W = .ok (.slice (some ⟨W.heap.size, 0, none⟩) k.length (grownCap W k.length 0 5)) (cvW W k) := by
  have := Lib.run_convert_string_bytes (P := Tryz.prog) W 9 63 5 (str k) Tryz.underlying9 Tryz.underlying63 Tryz.underlying5
  rw [str_size] at this
  exact this
theorem cv_ext (k : Bytes) (W : World) : Ext [] W (cvW W k) := Ext.of_below (Lib.bytesWorld_below W 5 (str k))
theorem cv_bs (k : Bytes) (W : World) (hl : k.length ≤ 4294967296) : Bs 5 (cvW W k) (.slice (some ⟨W.heap.size, 0, none⟩) k.length (grownCap W k.length 0 5)) k := by
  have hcap := grownCap_ge W k.length 0 5
  have hcap2 := grownCap_le_maxLen W k.length 0 5 (by unfold maxLen; omega)
  unfold maxLen at hcap2
  have hat := Lib.bytesWorld_at_new W 5 (str k)
  refine ⟨_, _, rfl, hcap, by omega, ?_⟩
  rcases Nat.eq_zero_or_pos k.length with h0 | h0
  · left
    exact ⟨h0, by rw [List.length_eq_zero_iff.1 h0]; rfl⟩
  · right
    refine ⟨h0, _, _, rfl, _, _, hat, ?_, ?_⟩
    · simp [Lib.bytesCells, str]
    · simp [Lib.bytesCells, str, bv, List.map_map, Function.comp_def]

/-! ### what was changed -/
def chP (was now : Tbl) (k : Bytes) : Option (Bytes × Bytes) := match tget now k with
  | some v => if tget was k = some v then none else some (k, v)
  | none => none
def chD (was now : Tbl) (k : Bytes) : Bool := (tget now k).isNone && (tget was k).isSome
def chPuts (was now : Tbl) : Tbl := now.filter fun p => decide (tget was p.1 ≠ some p.2)
def chDels (was now : Tbl) : List Bytes := (was.filter fun p => (tget now p.1).isNone).map (·.1)

theorem chP_key {was now : Tbl} {k : Bytes} {p : Bytes × Bytes} (h : chP was now k = some p) : p.1 = k ∧ tget now k = some p.2 ∧ tget was k ≠ some p.2 := by
  unfold chP at h
  split at h
  · rename_i v hv
    split at h
    · cases h
    · rename_i hw
      injection h with h
      subst h
      exact ⟨rfl, hv, hw⟩
  · cases h
theorem sorted_chP {was now : Tbl} {l : List Bytes} (hl : l.Pairwise (· < ·)) : Sorted (l.filterMap (chP was now)) := by
  unfold Sorted
  rw [List.pairwise_filterMap]
  refine hl.imp ?_
  intro a b hab p hp q hq
  rw [(chP_key hp).1, (chP_key hq).1]
  exact hab
theorem chP_all {was now : Tbl} (hn : Sorted now) {l : List Bytes} (hl : l.Pairwise (· < ·)) (hout : ∀ k, k ∉ l → tget now k = tget was k) : l.filterMap (chP was now) = chPuts was now := by
  refine Sorted.perm_eq ?_ (sorted_chP hl) (List.Pairwise.filter _ hn)
  unfold chPuts
  rw [List.perm_ext_iff_of_nodup (sorted_chP hl).nd (List.Pairwise.filter _ hn.nd)]
  rintro ⟨k, v⟩
  simp only [List.mem_filterMap, List.mem_filter, decide_eq_true_eq]
  constructor
  · rintro ⟨k', _, h⟩
    obtain ⟨h1, h2, h3⟩ := chP_key h
    simp at h1
    subst h1
    exact ⟨tget_mem h2, h3⟩
  · rintro ⟨h1, h2⟩
    have h1' := hn.mem_iff.1 h1
    refine ⟨k, ?_, ?_⟩
    · by_cases hk : k ∈ l
      · exact hk
      · rw [hout k hk] at h1'; exact absurd h1' h2
    · unfold chP
      rw [h1']; simp only [h2, if_false]
theorem chD_all {was now : Tbl} (hw : Sorted was) {l : List Bytes} (hl : l.Pairwise (· < ·)) (hout : ∀ k, k ∉ l → tget now k = tget was k) : l.filter (chD was now) = chDels was now := by
  have s1 : (l.filter (chD was now)).Pairwise (· < ·) := List.Pairwise.filter _ hl
  have s2 : (chDels was now).Pairwise (· < ·) := List.pairwise_map.2 (List.Pairwise.filter _ hw)
  have nd : ∀ l : List Bytes, l.Pairwise (· < ·) → l.Nodup := fun l h => h.imp fun h => blt_ne h
  refine List.Perm.eq_of_pairwise (le := fun (a b : Bytes) => a < b) (fun a b _ _ h1 h2 => absurd h2 (blt_asymm h1)) s1 s2 ?_
  rw [List.perm_ext_iff_of_nodup (nd _ s1) (nd _ s2)]
  intro k
  simp only [chDels, List.mem_filter, List.mem_map, chD, Bool.and_eq_true, Option.isNone_iff_eq_none]
  constructor
  · rintro ⟨_, h1, h2⟩
    obtain ⟨v, hv⟩ := Option.isSome_iff_exists.1 h2
    exact ⟨(k, v), ⟨tget_mem hv, h1⟩, rfl⟩
  · rintro ⟨⟨k', v⟩, ⟨h1, h2⟩, rfl⟩
    have h1' := hw.mem_iff.1 h1
    refine ⟨?_, h2, by simp [h1']⟩
    by_cases hk : k' ∈ l
    · exact hk
    · rw [hout k' hk, h1'] at h2; cases h2

theorem OwnP.rebase {base base' : Nat} {w : World} {r : Value} {l : Tbl} (h : OwnP base w r l) (hb : base' ≤ base) : OwnP base' w r l := by
  obtain ⟨hs, h2, h3⟩ := h
  exact ⟨hs, own_rebase h2 (fun b hb' => Nat.le_trans hb (own_fresh h2 b hb')), h3⟩
theorem OwnD.rebase {base base' : Nat} {w : World} {r : Value} {l : List Bytes} (h : OwnD base w r l) (hb : base' ≤ base) : OwnD base' w r l := by
  obtain ⟨hs, h2, h3⟩ := h
  exact ⟨hs, own_rebase h2 (fun b hb' => Nat.le_trans hb (own_fresh h2 b hb')), h3⟩
theorem own_apart {w : World} {b1 b2 T1 T2 k1 k2 n1 n2 : Nat} {v1 v2 : Value} {x1 x2 : List Value} (h1 : w.ownsRow b1 T1 k1 v1 n1 x1) (h2 : w.ownsRow b2 T2 k2 v2 n2 x2) (hT : T1 ≠ T2) : ∀ b, v1.ownBlock = some b → b ∉ v2.ownBlock.toList := by
  intro b hb hm
  obtain ⟨_, ⟨rfl, _⟩ | ⟨g, cap, cur, rfl, _, hg, _⟩⟩ := h1
  · simp [Value.ownBlock] at hb
  · simp [Value.ownBlock] at hb
    subst hb
    exact own_other h2 (U := T1) (fun e => hT e.symm) g hm cur (0, 0) hg
theorem OwnP.other {base : Nat} {w w' : World} {v1 v2 : Value} {l : Tbl} {b2 k2 n2 : Nat} {x2 : List Value} (h : OwnP base w v1 l) (ho : w.ownsRow b2 63 k2 v2 n2 x2) (e : Ext v2.ownBlock.toList w w') : OwnP base w' v1 l := by
  obtain ⟨hs, h2, h3⟩ := h
  exact OwnP.ext ⟨hs, h2, h3⟩ e (own_apart h2 ho (by decide)) (own_other ho (by decide))
theorem OwnD.other {base : Nat} {w w' : World} {v1 v2 : Value} {l : List Bytes} {b2 k2 n2 : Nat} {x2 : List Value} (h : OwnD base w v1 l) (ho : w.ownsRow b2 95 k2 v2 n2 x2) (e : Ext v2.ownBlock.toList w w') : OwnD base w' v1 l := by
  obtain ⟨hs, h2, h3⟩ := h
  exact OwnD.ext ⟨hs, h2, h3⟩ e (own_apart h2 ho (by decide)) (own_other ho (by decide))
end Go.Proofs.YtbbfgbkbdhghbaaGreatDoor
