/-
  The changed keys of a view, sorted.
-/
import Derived.Test.YthifoaclmfbhdaaGreatDoorHdr
import Derived.Test.YthifoaclmfbhdaaGreatDoorShelf
import Derived.Sort.OwnSorted
set_option linter.unusedVariables false
set_option linter.unusedSimpArgs false
namespace Go.Proofs.YthifoaclmfbhdaaGreatDoor
open Go.RowKit Go.Sort

def msort (l : List Bytes) : List Bytes := l.mergeSort fun x y => decide (x ≤ y)

theorem sort_strings {base : Nat} {w : World} {r : Value} {l : List Bytes} (h : OwnS base w r l) (hl : l.length ≤ 1099511627776) :
    Calls Tryz.prog 43 #[r] w fun e w' => e = .returned (.tuple #[]) ∧ OwnS base w' r (msort l) ∧ Ext r.ownBlock.toList w w' := by
  have h' := h
  obtain ⟨hlen, ⟨rfl, h0⟩ | ⟨g, cap, cur, rfl, hbg, hg, hnc, hcm, hcs, htake⟩⟩ := h
  · have : l = [] := List.eq_nil_of_length_eq_zero h0
    subst this
    refine (Tryz.slices_Sort_string_none none 0 w).mono ?_
    rintro e w' ⟨rfl, rfl⟩
    exact ⟨rfl, by simpa [msort, List.mergeSort] using h', Ext.refl _ _⟩
  · have e1 : l.map stv = l.map encStr := rfl
    have hH := Go.holds_of_block (ss := l) hg (by simpa [e1] using htake)
    refine (Tryz.slices_Sort_string g 0 cap l w hH (Array.getElem?_eq_some_iff.1 hg).1 (by omega)).mono ?_
    rintro e w' ⟨rfl, n, os, rfl⟩
    have hml : (msort l).length = l.length := by simp [msort]
    have ho := Go.ownsRow_sorted (w := w) (base := base) (n := n) (os := os) (ss := l) (ts := msort l) hml hbg hg hnc hcm hcs
    refine ⟨rfl, ?_, (Ext.refl _ w).grown (Go.grownBy_sorted _) (fun k hk _ => ?_)⟩
    · unfold OwnS; rw [hml]; exact ho
    · simp [Value.ownBlock] at hk ⊢; exact hk.symm

theorem changes_keys {w : World} {c : Nat} {ch : List (Bytes × Value)} (hm : MapIs strEnc w c ch) (hn : ch.length ≤ 1099511627776) :
    Calls Tryz.prog 20 #[.map (some c)] w fun e w' => ∃ r l, e = .returned r ∧ OwnS w.heap.size w' r l ∧ Ext [] w w' ∧ l.Perm (ch.map (·.1)) ∧ l.Pairwise (· < ·) := by
  have hcl := hm.lt
  have hnd := hm.nodup
  obtain ⟨hr, hit⟩ := Iter.start (P := Tryz.prog) hm Tryz.underlying25
  have x1 := (Ext.refl [] w).alloc (.mapIter (some c) (hm.choose_spec.choose) #[] (hm.choose_spec.choose))
  have hs1 : w.heap.size < (w.alloc (.mapIter (some c) (hm.choose_spec.choose) #[] (hm.choose_spec.choose))).heap.size := by simp
  generalize (w.alloc (.mapIter (some c) (hm.choose_spec.choose) #[] (hm.choose_spec.choose))) = w1 at hr hit x1 hs1
  go_enter Tryz.func20, Tryz.ntmps20
  go_wp2_with fail
  go_loopw [3] (fun v wr => ∃ L left, wr.ownsRow (w.heap.size + 1) 9 1 v L.length (L.map stv) ∧ Iter strEnc wr w.heap.size c ch left ∧ (L ++ left.map (·.1)).Perm (ch.map (·.1)) ∧ Ext [] w wr ∧ w.heap.size < wr.heap.size) (fun _ wr => iterLeft wr w.heap.size)
  case atStart => exact ⟨[], ch, own_nil _ _ _ _, hit, List.Perm.refl _, x1, hs1⟩
  case round =>
    obtain ⟨L, left, ho, hi, hp, hx, hsz⟩ := hrel
    rcases hi.next (P := Tryz.prog) 0 with ⟨h1, h2⟩ | ⟨pre, k, v, post, w2, h1, h2, h3, h4, h5, h6, h7⟩
    · subst h1
      have hp' : L.Perm (ch.map (·.1)) := by simpa using hp
      have hlen : L.length = ch.length := by simpa using hp'.length_eq
      go_wp2_with fail
      refine (sort_strings (l := L) (own_rebase (base' := w.heap.size + 1) ho (own_fresh ho)) (by omega)).mono ?_
      rintro e w2 ⟨rfl, hs, hx2⟩
      have hfr := own_fresh ho
      go_wp2_with fail
      go_ret
      have hms : (msort L).Perm L := List.mergeSort_perm _ _
      refine ⟨_, msort L, rfl, own_rebase hs (fun b hb => by have := hfr b hb; omega), hx.trans hx2 (fun b hb hlt => by have := hfr b (by simpa using hb); omega), hms.trans hp', ?_⟩
      have hsrt : (msort L).Pairwise (fun a b => decide (a ≤ b) = true) := List.pairwise_mergeSort (fun a b c h1 h2 => by simp at h1 h2 ⊢; exact List.le_trans h1 h2) (fun a b => by simp; exact List.le_total a b) L
      have hnd2 : (msort L).Nodup := (hms.trans hp').nodup_iff.2 hnd
      refine List.Pairwise.imp (R := fun a b => decide (a ≤ b) = true ∧ a ≠ b) (fun {a b} h => ?_) (hsrt.and hnd2)
      have h1 : a ≤ b := by simpa using h.1
      by_cases hh : a < b
      · exact hh
      · exact absurd (List.le_antisymm h1 (List.not_lt.1 hh)) h.2
    · clear hr hit
      change _ = Result.ok (Value.tuple #[Value.bool true, Value.string (str k), v]) w2 at h3
      change _ = Result.ok (Value.tuple #[Value.string (str k), v]) w2 at h4
      have hfr := own_fresh ho
      have ho2 := own_ext ho h6 (fun b hb hm => by have := hfr b hb; simp at hm; omega)
      have hpl := hp.length_eq
      rw [h1] at hpl
      simp at hpl
      have hsz2 : w.heap.size < w2.heap.size := by omega
      clear h7
      have HP := Lib.hid hpl
      clear hpl
      have H1 := Lib.hid h1
      have hLb : L.length < ch.length := by have := HP.out; omega
      iterate 60 (first | at_builtin | go_step | skip)
      with_reducible refine app1 (k := 1) Tryz.underlying53 row_string (by decide) ho2 ?_ ?_ ?_ ?_ ?_ ?_ ?_ ?_
      rfl
      simp [Value.oneCell']
      omega
      omega
      omega
      rfl
      rfl
      intro v1 w3 ho3 hx3 hat
      go_wp2_with fail
      go_roundw
      case rel =>
        have hr : w.heap.size ∉ u3.ownBlock.toList := fun hm => by have := hfr _ (by simpa using hm); omega
        have hc : c ∉ u3.ownBlock.toList := fun hm => by have := hfr _ (by simpa using hm); omega
        refine ⟨L ++ [k], pre ++ post, ?_, h5.ext hx3 hc hr, ?_, ?_, ?_⟩
        · simpa [stv] using ho3
        · refine List.Perm.trans ?_ hp
          rw [h1]
          simp
          exact List.Perm.append_left _ List.perm_middle.symm
        · exact (hx.trans h6 (by simp)).trans hx3 (fun b hb hlt => by have := hfr b (by simpa using hb); omega)
        · have := hx3.size; omega
      case measure =>
        have hr : w.heap.size ∉ u3.ownBlock.toList := fun hm => by have := hfr _ (by simpa using hm); omega
        have hc : c ∉ u3.ownBlock.toList := fun hm => by have := hfr _ (by simpa using hm); omega
        rw [(h5.ext hx3 hc hr).left_eq, hi.left_eq, h1]
        simp
end Go.Proofs.YthifoaclmfbhdaaGreatDoor
