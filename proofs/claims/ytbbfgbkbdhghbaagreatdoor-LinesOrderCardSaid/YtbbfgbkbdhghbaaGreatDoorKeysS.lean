/-
  keys.Split tells the numbers that a key is of.
-/
import Derived.Test.YtbbfgbkbdhghbaaGreatDoorKeys
import Derived.Test.YtbbfgbkbdhghbaaGreatDoorNumG
set_option linter.unusedVariables false
set_option linter.unusedSimpArgs false
namespace Go.Proofs.YtbbfgbkbdhghbaaGreatDoor
open Go.RowKit
variable {U : TypeId}

def nums4 (rest : Bytes) : List Int := (List.range (rest.length / 4)).map fun i => ofBe ((rest.drop (4 * i)).take 4)
def splitK : Bytes → Option (UInt8 × List Int)
  | [] => none
  | t :: rest => if rest.length % 4 = 0 ∧ rest.length ≤ 28 then some (t, nums4 rest) else none

theorem Bs.drop {T : TypeId} {w : World} {b off n c : Nat} {l : Bytes} (h : Bs T w (.slice (some ⟨b, off, none⟩) n c) l) (k : Nat) (hk : k < l.length) : Bs T w (.slice (some ⟨b, off + k, none⟩) (l.length - k) (c - k)) (l.drop k) := by
  obtain ⟨p', c', e, h1, h2, h3⟩ := h
  injection e with e1 e2 e3
  subst e1; subst e2; subst e3
  rcases h3 with ⟨h3, _⟩ | ⟨h3, b', off', e, hr⟩
  · omega
  · injection e with e; injection e with e1 e2; subst e1; subst e2
    refine ⟨_, _, by rw [List.length_drop], by rw [List.length_drop]; omega, by omega, .inr ⟨by rw [List.length_drop]; omega, _, _, rfl, ?_⟩⟩
    have := hr.sub k (l.length - k) (by simp; omega)
    rw [List.take_of_length_le (by simp)] at this
    rw [List.map_drop]
    exact this

theorem keys_Split_no {w : World} {v : Value} {k : Bytes} (hk : Bs U w v k) (hs : splitK k = none) :
    Calls Tryz.prog 65 #[v] w fun e w' => e = .returned (.tuple #[.int .u8 0, .slice none 0 0, .bool false]) ∧ w = w' := by
  cases k with
  | nil =>
    obtain ⟨p, c, rfl, _, _⟩ := hk.shape
    go_enter Tryz.func65, Tryz.ntmps65
    go_wp2_with fail
    go_ret3
    exact ⟨rfl, rfl⟩
  | cons t rest =>
    obtain ⟨b, off, c, rfl, hrow⟩ := hk.sl.at (by simp)
    have hc : rest.length + 1 ≤ c ∧ c ≤ 9223372036854775807 := by obtain ⟨p, c1, e, q1, q2⟩ := hk.shape; injection e with _ _ e; subst e; exact ⟨q1, q2⟩
    obtain ⟨hc1, hc2⟩ := hc
    have hs' : ¬ rest.length % 4 = 0 ∨ rest.length % 4 = 0 ∧ ¬ rest.length ≤ 28 := by
      simp only [splitK] at hs
      split at hs
      · simp at hs
      · omega
    rcases hs' with h1 | ⟨h1, h2⟩
    · have q1 : (((rest.length : Int) % 4) != 0) = true := by rw [bne_iff_ne]; omega
      go_enter Tryz.func65, Tryz.ntmps65
      go_wp2_with fail
      go_ret3
      exact ⟨rfl, rfl⟩
    · have q1 : (((rest.length : Int) % 4) != 0) = false := by rw [bne_eq_false_iff_eq]; omega
      have q2 : (28 : Int) < (rest.length : Int) := by omega
      go_enter Tryz.func65, Tryz.ntmps65
      go_wp2_with fail
      go_ret3
      exact ⟨rfl, rfl⟩

theorem nums4_take (rest : Bytes) (i : Nat) : (List.range (i + 1)).map (fun i => ofBe ((rest.drop (4 * i)).take 4)) = (List.range i).map (fun i => ofBe ((rest.drop (4 * i)).take 4)) ++ [ofBe ((rest.drop (4 * i)).take 4)] := by
  rw [List.range_succ, List.map_append]; rfl

theorem keys_Split {w : World} {v : Value} {k : Bytes} {t : UInt8} {l : List Int} (hk : Bs U w v k) (hs : splitK k = some (t, l)) :
    Calls Tryz.prog 65 #[v] w fun e w' => ∃ r, e = .returned (.tuple #[.int .u8 (t.toNat : Int), r, .bool true]) ∧ NewI w w' r l ∧ Ext [] w w' := by
  cases k with
  | nil => simp [splitK] at hs
  | cons t' rest =>
    obtain ⟨b, off, c, rfl, hrow⟩ := hk.sl.at (by simp)
    have hc : rest.length + 1 ≤ c ∧ c ≤ 9223372036854775807 := by obtain ⟨p, c1, e, q1, q2⟩ := hk.shape; injection e with _ _ e; subst e; exact ⟨q1, q2⟩
    obtain ⟨hc1, hc2⟩ := hc
    simp only [splitK] at hs
    split at hs
    · rename_i hl
      obtain ⟨hl1, hl2⟩ := hl
      simp only [Option.some.injEq, Prod.mk.injEq] at hs
      obtain ⟨rfl, rfl⟩ := hs
      have q1 : (((rest.length : Int) % 4) != 0) = false := by rw [bne_eq_false_iff_eq]; omega
      have q2 : ¬ (28 : Int) < (rest.length : Int) := by omega
      have hcell := hrow.cell (i := 0) (v := .int .u8 (t'.toNat : Int)) rfl
      rw [Nat.add_zero] at hcell
      rcases Nat.eq_zero_or_pos rest.length with h0 | hpos
      · have : rest = [] := List.eq_nil_of_length_eq_zero h0
        subst this
        by_cases hcc : c = 1
        · subst hcc
          go_enter Tryz.func65, Tryz.ntmps65
          go_wp2_with fail
          go_loopw [6, 7] (fun o x wr => ∃ i : Nat, 4 * i ≤ 0 ∧ x = .int .i64 (4 * (i : Int)) ∧ NewI w wr o ((List.range i).map fun i => ofBe ((([] : Bytes).drop (4 * i)).take 4)) ∧ Ext [] w wr) (fun _ x _ => 0 - (intOf x).toNat)
          case atStart => exact ⟨0, Nat.zero_le _, rfl, own_nil _ _ _ _, Ext.refl _ _⟩
          case round =>
            obtain ⟨i, hi, rfl, ho, hx⟩ := hrel
            have eI : ([] : Bytes).length / 4 = i := by simp; omega
            have hcell2 := hx.cell (by simp) hcell
            have q3 : ¬ (4 * (i : Int) < 0) := by omega
            go_wp2_with fail
            go_ret3
            exact ⟨_, rfl, by rw [nums4, eI]; exact ho, hx⟩
        · skip
          go_enter Tryz.func65, Tryz.ntmps65
          go_wp2_with fail
          go_loopw [6, 7] (fun o x wr => ∃ i : Nat, 4 * i ≤ 0 ∧ x = .int .i64 (4 * (i : Int)) ∧ NewI w wr o ((List.range i).map fun i => ofBe ((([] : Bytes).drop (4 * i)).take 4)) ∧ Ext [] w wr) (fun _ x _ => 0 - (intOf x).toNat)
          case atStart => exact ⟨0, Nat.zero_le _, rfl, own_nil _ _ _ _, Ext.refl _ _⟩
          case round =>
            obtain ⟨i, hi, rfl, ho, hx⟩ := hrel
            have eI : ([] : Bytes).length / 4 = i := by simp; omega
            have hcell2 := hx.cell (by simp) hcell
            have q3 : ¬ (4 * (i : Int) < 0) := by omega
            go_wp2_with fail
            go_ret3
            exact ⟨_, rfl, by rw [nums4, eI]; exact ho, hx⟩
      · have hrest : Bs U w (.slice (some ⟨b, off + 1, none⟩) rest.length (c - 1)) rest := by
          have := hk.drop 1 (by simp; omega)
          simpa using this
        go_enter Tryz.func65, Tryz.ntmps65
        go_wp2_with fail
        go_loopw [6, 7] (fun o x wr => ∃ i : Nat, 4 * i ≤ rest.length ∧ x = .int .i64 (4 * (i : Int)) ∧ NewI w wr o ((List.range i).map fun i => ofBe ((rest.drop (4 * i)).take 4)) ∧ Ext [] w wr) (fun _ x _ => rest.length - (intOf x).toNat)
        case atStart => exact ⟨0, Nat.zero_le _, rfl, own_nil _ _ _ _, Ext.refl _ _⟩
        case round =>
          obtain ⟨i, hi, rfl, ho, hx⟩ := hrel
          by_cases hlt : 4 * i < rest.length
          · have h44 : 4 * i + 4 ≤ rest.length := by omega
            have hG := num_Get4 (4 * i) 4 (hrest.then hx) (.inl rfl) h44
            have HF := Lib.hid (nums4_take rest i)
            have hbd := ofBe_bdk (rest.drop (4 * i)) 4 (by rw [List.length_drop]; omega)
            obtain ⟨hb0, hb1⟩ := hbd
            have HW := Lib.hid (show wrap64 (ofBe ((rest.drop (4 * i)).take 4)) = ofBe ((rest.drop (4 * i)).take 4) by unfold wrap64; omega)
            rw [HW.out] at hG
            have hsz := hx.size
            have hlen : ((List.range i).map fun i => ofBe ((rest.drop (4 * i)).take 4)).length ≤ 28 := by simp; omega
            clear hk hrow hcell
            generalize hnn : ofBe ((rest.drop (4 * i)).take 4) = nn at *
            have HN := Lib.hid hnn
            clear hnn
            iterate 40 (first | at_builtin | go_step | skip)
            go_at_call 90
            refine hG.mono ?_
            rintro e w1 ⟨rfl, rfl⟩
            dsimp only
            iterate 40 (first | at_builtin | go_step | skip)
            with_reducible refine app1 (k := 1) Tryz.underlying22 row_int (by decide) ho.own ?_ ?_ ?_ ?_ ?_ ?_ ?_ ?_
            rfl
            exact iv_one [nn]
            omega
            omega
            omega
            rfl
            rfl
            intro v1 w2 ho1 hx1 hat
            go_wp2_with fail
            go_roundw
            case rel =>
              refine ⟨i + 1, by omega, by go_num, ?_, hx.trans hx1 (fun b hb hlt' => by have := own_fresh ho b (by simpa using hb); omega)⟩
              rw [HF.out]
              simpa [NewI, iv] using ho1
            case measure => simp [intOf]; omega
          · have eI : rest.length / 4 = i := by omega
            have hcell2 := hx.cell (by simp) hcell
            have q3 : ¬ (4 * (i : Int) < (rest.length : Int)) := by omega
            go_wp2_with fail
            go_ret3
            exact ⟨_, rfl, by rw [nums4, eI]; exact ho, hx⟩
    · simp at hs
end Go.Proofs.YtbbfgbkbdhghbaaGreatDoor
