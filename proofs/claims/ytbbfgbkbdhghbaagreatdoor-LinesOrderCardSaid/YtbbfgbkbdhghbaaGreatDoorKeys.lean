/-
  keys.Key computes the bytes of a key of at most seven numbers.
-/
import Derived.Test.YtbbfgbkbdhghbaaGreatDoorNum
set_option linter.unusedVariables false
set_option linter.unusedSimpArgs false
namespace Go.Proofs.YtbbfgbkbdhghbaaGreatDoor
open Go.RowKit

/-- a number as it stands in a key -/
def clamp (n : Int) : Int := min (max n 0) 4294967295
theorem clamp_bd (n : Int) : 0 ≤ clamp n ∧ clamp n ≤ 4294967295 := by unfold clamp; omega
def key (tag : UInt8) (nums : List Int) : Bytes := tag :: (nums.take 7).flatMap (fun n => be (clamp n) 4)
theorem key_length (tag : UInt8) (nums : List Int) : (key tag nums).length = 1 + 4 * min nums.length 7 := by
  have : ∀ l : List Int, (l.flatMap (fun n => be (clamp n) 4)).length = 4 * l.length := fun l => by
    induction l with
    | nil => rfl
    | cons a l ih => simp [be_length, ih]; omega
  simp [key, this, Nat.min_comm]; omega

theorem clamp_ite (x : Int) : (if 4294967295 < (if x < 0 then 0 else x) then 4294967295 else if x < 0 then 0 else x) = clamp x := by unfold clamp; omega
theorem numPut_clamp (l : Bytes) (n : Int) : numPut l (clamp n) 4 = l ++ be (clamp n) 4 := by
  have := clamp_bd n
  have h : fits (clamp n) (4 : Nat) = true := by simp [fits]; omega
  unfold numPut; rw [if_pos h]

theorem keys_Key (tag : UInt8) (v : Value) (xs : List Int) (w : World) (hv : Is w v xs) (h7 : xs.length ≤ 7) :
    Calls Tryz.prog 28 #[.int .u8 (tag.toNat : Int), v] w fun e w' => ∃ r, e = .returned r ∧ NewB w w' r (key tag xs) ∧ Ext [] w w' := by
  obtain ⟨p, c, rfl, hc1, hc2⟩ := hv.shape
  have x0 := (Ext.refl [] w).alloc (.cells #[.int .u8 (tag.toNat : Int)] 5)
  have h0 := own_lit w.heap.size 5 1 #[.int .u8 (tag.toNat : Int)] 1 rfl w (Nat.le_refl _) (by decide)
  have h7' : (xs.length : Int) ≤ 7 := by omega
  go_enter Tryz.func28, Tryz.ntmps28
  go_wp2_with fail
  go_loopw [5, 16] (fun o s wr => ∃ i : Nat, i ≤ xs.length ∧ s = .int .i64 i ∧ NewB w wr o (tag :: (xs.take i).flatMap (fun n => be (clamp n) 4)) ∧ Ext [] w wr) (fun _ s _ => xs.length - (intOf s).toNat)
  case atStart => exact ⟨0, Nat.zero_le _, rfl, by simpa [NewB, bv] using h0, x0⟩
  case round =>
    obtain ⟨i, hi, rfl, hown, hx⟩ := hrel
    by_cases hlt : i < xs.length
    · obtain ⟨b, off, c', hp, hrow⟩ := hv.sl.at (by omega)
      injection hp with hp _ hc'
      subst hp; subst hc'
      have hcell := (hrow.ext hx (by simp)).cell (i := i) (v := .int .i64 xs[i]) (by simp [hlt, iv])
      have hlen : (tag :: (xs.take i).flatMap (fun n => be (clamp n) 4)).length ≤ 4294967296 := by
        have e : (tag :: (xs.take i).flatMap (fun n => be (clamp n) 4)) = key tag (xs.take i) := by
          rw [key, List.take_of_length_le (i := 7)]; simp; omega
        rw [e, key_length]; omega
      have HF := Lib.hid (show (xs.take (i + 1)).flatMap (fun n => be (clamp n) 4) = (xs.take i).flatMap (fun n => be (clamp n) 4) ++ be (clamp xs[i]) 4 by
        rw [List.take_succ_eq_append_getElem hlt, List.flatMap_append]; simp)
      have hsz := hx.size
      go_wp2_with (go_at_call 51; refine (num_Put4 _ _ _ _ hown.bs hlen (by omega)).mono ?_; rintro e w' ⟨v, rfl, hn, hx2⟩)
      all_goals
        go_roundw
        case rel =>
          refine ⟨i + 1, by omega, by go_num, ?_, hx.then hx2⟩
          rw [HF.out]
          rw [clamp_ite] at hn
          exact hn.later hsz
        case measure => simp [intOf]; omega
    · have e : i = xs.length := by omega
      subst e
      go_wp2_with fail
      go_ret
      refine ⟨_, rfl, ?_, hx⟩
      rw [List.take_length] at hown
      rw [key, List.take_of_length_le (by omega)]
      exact hown
end Go.Proofs.YtbbfgbkbdhghbaaGreatDoor
