/-
  num.Get reads the big-endian number that some bytes are.
-/
import Derived.Test.YtbbfgbkbdhghbaaGreatDoorNum
import Derived.Laws.BitsAllLaws
set_option linter.unusedVariables false
set_option linter.unusedSimpArgs false
namespace Go.Proofs.YtbbfgbkbdhghbaaGreatDoor
open Go.RowKit
variable {U : TypeId}

/-- the number that bytes are, the greatest first -/
def ofBe (l : Bytes) : Int := l.foldl (fun n b => n * 256 + (b.toNat : Int)) 0
theorem ofBe_snoc (l : Bytes) (b : UInt8) : ofBe (l ++ [b]) = ofBe l * 256 + (b.toNat : Int) := by simp [ofBe]
theorem ofBe_take (l : Bytes) (k : Nat) (hk : k < l.length) : ofBe (l.take (k + 1)) = ofBe (l.take k) * 256 + (l[k].toNat : Int) := by
  rw [List.take_succ_eq_append_getElem hk, ofBe_snoc]
theorem ofBe_bdk (l : Bytes) : ∀ k, k ≤ l.length → 0 ≤ ofBe (l.take k) ∧ ofBe (l.take k) < 256 ^ k
  | 0, _ => by simp [ofBe]
  | k + 1, hk => by
    have ih := ofBe_bdk l k (by omega)
    rw [ofBe_take l k (by omega), Int.pow_succ]
    have := l[k].toNat_lt
    omega
theorem ofBe_bd (l : Bytes) : 0 ≤ ofBe l ∧ ofBe l < 256 ^ l.length := by
  have := ofBe_bdk l l.length (Nat.le_refl _)
  rwa [List.take_length] at this

/-- n<<8 | x, at 64 bits -/
theorem u64_step (n : Int) (x : UInt8) (h0 : 0 ≤ n) (h1 : n < 72057594037927936) : bits .or .u64 (n * 256) (x.toNat : Int) = n * 256 + x.toNat := by
  obtain ⟨m, rfl⟩ := Int.eq_ofNat_of_zero_le h0
  have hx := x.toNat_lt
  have e : (m * 256) ||| x.toNat = m * 256 + x.toNat := by
    have := Nat.shiftLeft_add_eq_or_of_lt (i := 8) (b := x.toNat) x.toNat_lt m
    rw [Nat.shiftLeft_eq] at this
    simpa using this.symm
  rw [u64_or _ _ (by omega) (by omega) (by omega) (by omega)]
  have q : ((m : Int) * 256).toNat = m * 256 := by omega
  rw [q, Int.toNat_natCast, e]
  omega

theorem num_Get4 {w : World} {b : Value} {l : Bytes} (at_ size : Nat) (hb : Bs U w b l) (hs : size = 4 ∨ size = 8) (ha : at_ + size ≤ l.length) :
    Calls Tryz.prog 90 #[b, .int .i64 at_, .int .i64 size] w fun e w' => e = .returned (.tuple #[.int .i64 (wrap64 (ofBe ((l.drop at_).take size))), .int .i64 0]) ∧ w = w' := by
  obtain ⟨b0, off, c, rfl, hrow⟩ := hb.sl.at (by omega)
  have hc : l.length ≤ c ∧ c ≤ 9223372036854775807 := by obtain ⟨p, c1, e, q1, q2⟩ := hb.shape; injection e with _ _ e; subst e; exact ⟨q1, q2⟩
  obtain ⟨hc1, hc2⟩ := hc
  have h1 : ¬ ((at_ : Int) < 0) := by omega
  have h2 : ¬ ((l.length : Int) < (size : Int)) := by omega
  have h3 : ¬ ((l.length : Int) - (size : Int) < (at_ : Int)) := by omega
  have hss : ((size : Int) == 1 || (size : Int) == 2 || (size : Int) == 4 || (size : Int) == 8) = true := by rcases hs with rfl | rfl <;> rfl
  have hN := num_sized (size : Int) w
  rw [hss] at hN
  clear hss
  have h4 : at_ + size ≤ c := by omega
  go_enter Tryz.func90, Tryz.ntmps90
  go_wp2_with (go_at_call 91; refine hN.mono ?_; rintro e w' ⟨rfl, rfl⟩)
  go_loopw [8, 37] (fun n x wr => ∃ i : Nat, i ≤ size ∧ x = .int .i64 i ∧ n = .int .u64 (ofBe ((l.drop at_).take i)) ∧ wr = w) (fun _ x _ => size - (intOf x).toNat)
  case atStart => exact ⟨0, Nat.zero_le _, rfl, rfl, rfl⟩
  case round =>
    obtain ⟨i, hi, rfl, rfl, rfl⟩ := hrel
    by_cases hlt : i < size
    · have hd : i < (l.drop at_).length := by rw [List.length_drop]; omega
      have hcell := hrow.cell (i := at_ + i) (v := .int .u8 (((l.drop at_)[i]).toNat : Int)) (by rw [List.getElem?_map, List.getElem_drop, List.getElem?_eq_getElem (by omega)]; rfl)
      rw [← Nat.add_assoc] at hcell
      have HE := Lib.hid (ofBe_take _ i hd)
      have hb0 := ofBe_bdk _ i (Nat.le_of_lt hd)
      have hp : (256 : Int) ^ i ≤ 72057594037927936 := by
        have : i = 0 ∨ i = 1 ∨ i = 2 ∨ i = 3 ∨ i = 4 ∨ i = 5 ∨ i = 6 ∨ i = 7 := by omega
        rcases this with h | h | h | h | h | h | h | h <;> rw [h] <;> decide
      generalize (l.drop at_)[i] = x at *
      generalize ofBe ((l.drop at_).take i) = n at *
      have hx := x.toNat_lt
      go_wp2_with fail
      refine ⟨⟨i + 1, by omega, by go_num, ?_, trivial⟩, by simp [intOf]; omega⟩
      rw [HE.out, u64_step n x (by omega) (by omega)]
    · have e : i = size := by omega
      subst e
      have hT : ofBe ((l.drop at_).take i) < 18446744073709551616 ∧ 0 ≤ ofBe ((l.drop at_).take i) := by
        have hb0 := ofBe_bdk (l.drop at_) i (by rw [List.length_drop]; omega)
        rcases hs with rfl | rfl
        · exact ⟨by have := hb0.2; omega, hb0.1⟩
        · exact ⟨by have := hb0.2; omega, hb0.1⟩
      obtain ⟨hT1, hT2⟩ := hT
      go_wp2_with fail
      go_ret2
      exact ⟨rfl, rfl⟩
end Go.Proofs.YtbbfgbkbdhghbaaGreatDoor
