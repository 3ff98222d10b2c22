/-
  num.Put and num.Right compute the big-endian bytes of a number.
-/
import Derived.Test.YtbbfgbkbdhghbaaGreatDoorPre
set_option linter.unusedVariables false
set_option linter.unusedSimpArgs false
namespace Go.Proofs.YtbbfgbkbdhghbaaGreatDoor
open Go.RowKit

theorem num_sized (n : Int) (w : World) : Calls Tryz.prog 91 #[.int .i64 n] w fun e w' => e = .returned (.bool (n == 1 || n == 2 || n == 4 || n == 8)) ∧ w = w' := by
  by_cases h1 : n = 1
  · subst h1; go_enter Tryz.func91, Tryz.ntmps91; go_wp2; go_ret; exact ⟨rfl, rfl⟩
  · by_cases h2 : n = 2
    · subst h2; go_enter Tryz.func91, Tryz.ntmps91; go_wp2; go_ret; exact ⟨rfl, rfl⟩
    · by_cases h4 : n = 4
      · subst h4; go_enter Tryz.func91, Tryz.ntmps91; go_wp2; go_ret; exact ⟨rfl, rfl⟩
      · by_cases h8 : n = 8
        · subst h8; go_enter Tryz.func91, Tryz.ntmps91; go_wp2; go_ret; exact ⟨rfl, rfl⟩
        · go_enter Tryz.func91, Tryz.ntmps91
          go_wp2
          go_ret
          exact ⟨by simp [h1, h2, h4, h8], rfl⟩

/-- a number has so many bytes -/
def fits (n size : Int) : Bool := size == 8 || (size == 1 && decide (0 ≤ n ∧ n < 256)) || (size == 2 && decide (0 ≤ n ∧ n < 65536)) || (size == 4 && decide (0 ≤ n ∧ n < 4294967296))

theorem div_zero_iff {n m : Int} (h0 : 0 ≤ n) (hm : 0 < m) : (n / m == 0) = decide (n < m) := by
  rw [Bool.eq_iff_iff]
  simp only [beq_iff_eq, decide_eq_true_eq]
  constructor
  · intro h
    have := Int.lt_ediv_add_one_mul_self n hm
    rw [h] at this; omega
  · intro h; exact Int.ediv_eq_zero_of_lt h0 h

theorem num_Right (n size : Int) (w : World) (hs : size = 1 ∨ size = 2 ∨ size = 4 ∨ size = 8) (hn : I64 n) :
    Calls Tryz.prog 66 #[.int .i64 n, .int .i64 size] w fun e w' => e = .returned (.bool (fits n size)) ∧ w = w' := by
  obtain ⟨hn0, hn1⟩ := hn
  by_cases h0 : 0 ≤ n
  · rcases hs with rfl | rfl | rfl | rfl
    all_goals
      go_enter Tryz.func66, Tryz.ntmps66
      go_wp2_with (go_at_call 91; refine (num_sized _ _).mono ?_; rintro e w' ⟨rfl, rfl⟩)
      go_ret
      first | exact ⟨ret_bool (by simp [fits, h0, div_zero_iff h0]), rfl⟩ | exact ⟨rfl, rfl⟩
  · rcases hs with rfl | rfl | rfl | rfl
    all_goals
      go_enter Tryz.func66, Tryz.ntmps66
      go_wp2_with (go_at_call 91; refine (num_sized _ _).mono ?_; rintro e w' ⟨rfl, rfl⟩)
      go_ret
      first | exact ⟨ret_bool (by simp [fits]; omega), rfl⟩ | exact ⟨rfl, rfl⟩

/-- a number's last k bytes, the greatest first -/
def be (n : Int) : Nat → Bytes
  | 0 => []
  | k + 1 => UInt8.ofNat ((n / 256 ^ k) % 256).toNat :: be n k
theorem be_length (n : Int) (k : Nat) : (be n k).length = k := by induction k <;> simp [be, *]

def numPut (l : Bytes) (n : Int) (k : Nat) : Bytes := if fits n k then l ++ be n k else l

theorem byte_of (n : Int) (j : Nat) (hj : j < 8) : (IntKind.u64.wrap n) / 2 ^ (8 * j) % 256 = (n / 256 ^ j) % 256 := by
  have hj' : j = 0 ∨ j = 1 ∨ j = 2 ∨ j = 3 ∨ j = 4 ∨ j = 5 ∨ j = 6 ∨ j = 7 := by omega
  simp only [IntKind.wrap, IntKind.bits, IntKind.signed]
  rcases hj' with rfl | rfl | rfl | rfl | rfl | rfl | rfl | rfl <;> simp <;> omega
theorem be_get (n : Int) (k i : Nat) (hi : i < k) : (be n k)[i]? = some (UInt8.ofNat ((n / 256 ^ (k - 1 - i)) % 256).toNat) := by
  induction k generalizing i with
  | zero => omega
  | succ k ih =>
    cases i with
    | zero => simp [be]
    | succ i =>
      simp only [be, List.getElem?_cons_succ]
      rw [ih i (by omega)]
      have e : k + 1 - 1 - (i + 1) = k - 1 - i := by omega
      rw [e]
theorem be_take (n : Int) (k i : Nat) (hi : i < k) : (be n k).take (i + 1) = (be n k).take i ++ [UInt8.ofNat ((n / 256 ^ (k - 1 - i)) % 256).toNat] := by
  rw [List.take_add_one, be_get n k i hi]
  rfl
theorem bv_mod (x : Int) : bv (UInt8.ofNat (x % 256).toNat) = .int .u8 (x % 256) := by
  unfold bv
  congr 1
  have h0 : 0 ≤ x % 256 := Int.emod_nonneg _ (by decide)
  have h1 : x % 256 < 256 := Int.emod_lt_of_pos _ (by decide)
  rw [UInt8.toNat_ofNat']
  omega

theorem num_Put (b : Value) (l : Bytes) (n : Int) (k : Nat) (w : World) (hb : Bs 5 w b l) (hl : l.length ≤ 4294967296) (hk : k = 1 ∨ k = 2 ∨ k = 4 ∨ k = 8) (hn : I64 n) :
    Calls Tryz.prog 51 #[b, .int .i64 n, .int .i64 k] w fun e w' => ∃ v, e = .returned v ∧ NewB w w' v (numPut l n k) ∧ Ext [] w w' := by
  obtain ⟨p, c, rfl, hc1, hc2⟩ := hb.shape
  have hmk := run_mk (P := Tryz.prog) Tryz.underlying63 row_u8 l.length (l.length + 8) (by omega) (by omega) (by omega)
  have eC : ((l.length + 8 : Nat) : Int) = (l.length : Int) + 8 := by omega
  rw [eC] at hmk
  clear eC
  have h0 := own_mk (base := w.heap.size) (e := 5) (z := .int .u8 0) rfl l.length (l.length + 8) (by omega) (by omega) w (Nat.le_refl _)
  have x0 := (Ext.refl [] w).alloc (.cells (zeroRow (Value.int .u8 0) 1 (l.length + 8)) 5)
  have hb1 := hb.then x0
  clear hc1 hc2 hb
  have hbl : (l.map bv).length = l.length := by simp
  have hbo := bv_one l
  have HT := Lib.hid (show (l.map bv).take l.length ++ (List.replicate l.length (Value.int .u8 0)).drop l.length = l.map bv by rw [List.take_of_length_le (by simp), List.drop_eq_nil_of_le (by simp), List.append_nil])
  cases hf : fits n k with
  | false =>
    have HE := Lib.hid (show numPut l n k = l by simp [numPut, hf])
    go_enter Tryz.func51, Tryz.ntmps51
    go_wp2_with (first | ((with_reducible refine cp Tryz.underlying63 (by kernel_rfl) h0 hb1.sl hbl hbo ?_ ?_ ?_); rfl; rfl; intro w1 ho1 hx1) | (go_at_call 66; refine (num_Right _ _ _ (by omega) hn).mono ?_; rintro e w' ⟨rfl, rfl⟩))
    go_ret
    rw [HE.out]
    rw [HT.out] at ho1
    refine ⟨_, rfl, ho1, (x0.trans hx1 (by simp [Value.ownBlock]))⟩
  | true =>
    have HE := Lib.hid (show numPut l n k = l ++ be n k by simp [numPut, hf])
    go_enter Tryz.func51, Tryz.ntmps51
    go_wp2_with (first | ((with_reducible refine cp Tryz.underlying63 (by kernel_rfl) h0 hb1.sl hbl hbo ?_ ?_ ?_); rfl; rfl; intro w1 ho1 hx1) | (go_at_call 66; refine (num_Right _ _ _ (by omega) hn).mono ?_; rintro e w' ⟨rfl, rfl⟩))
    have ho2 : w1.ownsRow w.heap.size 5 1 (.slice (some ⟨w.heap.size, 0, none⟩) l.length (l.length + 8)) l.length (l.map bv) := by rw [HT.out] at ho1; exact ho1
    have hx2 : Ext [] w w1 := x0.trans hx1 (by simp [Value.ownBlock])
    clear ho1 hx1 hmk h0 x0 hb1
    go_loopw [7, 8] (fun v s wr => ∃ i : Nat, i ≤ k ∧ s = .int .i64 (8 * ((k : Int) - 1 - i)) ∧ wr.ownsRow w.heap.size 5 1 v (l.length + i) ((l ++ (be n k).take i).map bv) ∧ Ext [] w wr) (fun _ s _ => (intOf s + 8).toNat)
    case atStart => exact ⟨0, Nat.zero_le _, by simp, by simpa using ho2, hx2⟩
    case round =>
      obtain ⟨i, hi, rfl, hown, hx⟩ := hrel
      have hB := hx.size
      by_cases hlt : i < k
      · obtain ⟨j, hj⟩ : ∃ j : Nat, j + i + 1 = k := ⟨k - 1 - i, by omega⟩
        have hkj : k - 1 - i = j := by omega
        have hb := byte_of n j (by omega)
        have he := be_take n k i hlt
        rw [hkj] at he
        have hs : 8 * ((k : Int) - 1 - i) = 8 * (j : Int) := by omega
        rw [hs]
        obtain ⟨N, hN⟩ : ∃ N, N = IntKind.u64.wrap n := ⟨_, rfl⟩
        rw [← hN] at hb
        have hcv : ∀ W : World, (convert 3 99 (.int .i64 n)).run Tryz.prog W = .ok (.int .u64 N) W := fun W => by
          rw [hN]; simp [convert, run_underlying Tryz.underlying3, run_underlying Tryz.underlying99, Conv.intToInt]
        obtain ⟨B, hBe⟩ : ∃ B : UInt8, B = UInt8.ofNat ((n / 256 ^ j) % 256).toNat := ⟨_, rfl⟩
        have hby : N / 2 ^ (8 * j) % 256 = (B.toNat : Int) := by
          have q := bv_mod (n / 256 ^ j)
          rw [← hBe, bv] at q
          injection q with _ q
          rw [hb, q]
        rw [← hBe] at he
        have hown' := own_rebase (base' := w.heap.size) hown (own_fresh hown)
        have HA := Lib.hid he
        have hj0 : 0 ≤ 8 * (j : Int) := by omega
        have HJ := Lib.hid hj
        have hj7 : j ≤ 7 := by omega
        clear he hb hN hBe hs hkj hj HT hf hbl
        iterate 80 (first | at_builtin | go_step | skip)
        with_reducible refine app1 (k := 1) Tryz.underlying63 row_u8 (by decide) hown ?_ ?_ ?_ ?_ ?_ ?_ ?_ ?_
        rfl
        exact bv_one [B]
        omega
        omega
        omega
        rfl
        rfl
        intro v1 w2 ho1 hx1 hat
        go_wp2_with fail
        go_roundw
        case rel =>
          refine ⟨i + 1, by omega, ?_, ?_, (hx.trans hx1 ?_)⟩
          · have := HJ.out; congr 1; omega
          · rw [HA.out, ← List.append_assoc, List.map_append]
            exact ho1
          · intro b hb hlt'
            have := own_fresh hown b (by simpa using hb)
            omega
        case measure => have := HJ.out; simp [intOf]; omega
      · have e : i = k := by omega
        subst e
        have hf2 : decide ((0 : Int) ≤ 8 * ((i : Int) - 1 - i)) = false := by simp; omega
        go_wp2_with fail
        go_ret
        rw [HE.out]
        have e2 : l.length + i = (l ++ be n i).length := by simp [be_length]
        have e3 : (be n i).take i = be n i := List.take_of_length_le (by simp [be_length])
        rw [e3, e2] at hown
        exact ⟨_, rfl, hown, hx⟩

theorem num_Put4 (b : Value) (l : Bytes) (n : Int) (w : World) (hb : Bs 5 w b l) (hl : l.length ≤ 4294967296) (hn : 0 ≤ n ∧ n ≤ 4294967295) :
    Calls Tryz.prog 51 #[b, .int .i64 n, .int .i64 4] w fun e w' => ∃ v, e = .returned v ∧ NewB w w' v (l ++ be n 4) ∧ Ext [] w w' := by
  have h := num_Put b l n 4 w hb hl (by simp) (by unfold I64; omega)
  have e : numPut l n 4 = l ++ be n 4 := by
    have h : fits n (4 : Nat) = true := by simp [fits]; omega
    unfold numPut; rw [if_pos h]
  rw [e] at h
  exact h
theorem num_Put8 (b : Value) (l : Bytes) (n : Int) (w : World) (hb : Bs 5 w b l) (hl : l.length ≤ 4294967296) (hn : I64 n) :
    Calls Tryz.prog 51 #[b, .int .i64 n, .int .i64 8] w fun e w' => ∃ v, e = .returned v ∧ NewB w w' v (l ++ be n 8) ∧ Ext [] w w' := by
  have h := num_Put b l n 8 w hb hl (by simp) hn
  have e : numPut l n 8 = l ++ be n 8 := by
    have h : fits n (8 : Nat) = true := by simp [fits]
    unfold numPut; rw [if_pos h]
  rw [e] at h
  exact h
end Go.Proofs.YtbbfgbkbdhghbaaGreatDoor
