/-
  code: Fund, Object, Fixed; the document's; chart.Name.
  num.Put and num.Right compute the big-endian bytes of a number.
  keys.Key computes the bytes of a key of at most seven numbers.
  num.Get reads the big-endian number that some bytes are.
  keys.Split tells the numbers that a key is of.
  view.base gives the pairs of the memory whose keys begin so.
  slices.DeleteFunc over pairs, with the closure of view.Scan.
  slices.DeleteFunc over pairs, with the closure of view.Scan: the row behind it.
-/
import Derived.Test.YtbbfgbkbdhghbaaGreatDoorBu1
import Derived.Test.YtbbfgbkbdhghbaaGreatDoorBu0
import Derived.Laws.BitsAllLaws
import Derived.Laws.IdiomCopy
set_option linter.unusedVariables false
set_option linter.unusedSimpArgs false
namespace Go.Proofs.YtbbfgbkbdhghbaaGreatDoor
open Go.RowKit
variable {U : TypeId}

theorem code_within (n lo hi : Int) (w : World) : Calls Tryz.prog 44 #[.int .i64 n, .int .i64 lo, .int .i64 hi] w fun e w' => e = .returned (.bool (decide (lo ≤ n) && decide (n ≤ hi))) ∧ w = w' := by
  by_cases h1 : lo ≤ n
  · go_enter Tryz.func44, Tryz.ntmps44
    go_wp2_with fail
    go_ret
    exact ⟨ret_bool (by simp [h1]), rfl⟩
  · go_enter Tryz.func44, Tryz.ntmps44
    go_wp2_with fail
    go_ret
    exact ⟨ret_bool (by simp; omega), rfl⟩

def fundOk (n : Int) : Bool := decide (100 ≤ n) && decide (n ≤ 999)
def objectOk (n : Int) : Bool := decide (1000 ≤ n) && decide (n ≤ 5999)
def fixedO (n : Int) : Bool := n == 1010 || n == 1900 || n == 2900 || n == 3000
theorem code_Fund (n : Int) (w : World) : Calls Tryz.prog 23 #[.int .i64 n] w fun e w' => e = .returned (.bool (fundOk n)) ∧ w = w' := by
  go_enter Tryz.func23, Tryz.ntmps23
  go_wp2_with (go_at_call 44; refine (code_within _ _ _ _).mono ?_; rintro e w' ⟨rfl, rfl⟩)
  go_ret
  exact ⟨rfl, rfl⟩
theorem ref_codeFund (n : Int) (w : World) : Calls Tryz.prog 29 #[.int .i64 n] w fun e w' => e = .returned (.bool (fundOk n)) ∧ w = w' := by
  by_cases h1 : 100 ≤ n
  · have HE := Lib.hid (show fundOk n = decide (n ≤ 999) by simp [fundOk, h1])
    go_enter Tryz.func29, Tryz.ntmps29
    go_wp2_with fail
    go_ret
    exact ⟨ret_bool HE.out.symm, rfl⟩
  · have HE := Lib.hid (show fundOk n = false by simp [fundOk, h1])
    go_enter Tryz.func29, Tryz.ntmps29
    go_wp2_with fail
    go_ret
    exact ⟨ret_bool HE.out.symm, rfl⟩
theorem fixed_cases (n : Int) : (n = 1010 ∨ n = 1900 ∨ n = 2900 ∨ n = 3000) ∧ fixedO n = true ∨ (n ≠ 1010 ∧ n ≠ 1900 ∧ n ≠ 2900 ∧ n ≠ 3000) ∧ fixedO n = false := by
  unfold fixedO
  by_cases h1 : n = 1010
  · simp [h1]
  · by_cases h2 : n = 1900
    · simp [h2]
    · by_cases h3 : n = 2900
      · simp [h3]
      · by_cases h4 : n = 3000
        · simp [h4]
        · simp [h1, h2, h3, h4]
theorem code_Fixed (n : Int) (w : World) : Calls Tryz.prog 57 #[.int .i64 n] w fun e w' => e = .returned (.bool (fixedO n)) ∧ w = w' := by
  rcases fixed_cases n with ⟨h, he⟩ | ⟨⟨h1, h2, h3, h4⟩, he⟩
  · rcases h with rfl | rfl | rfl | rfl <;> (go_enter Tryz.func57, Tryz.ntmps57; go_wp2_with fail; go_ret; exact ⟨rfl, rfl⟩)
  · have HE := Lib.hid he
    clear he
    go_enter Tryz.func57, Tryz.ntmps57
    go_wp2_with fail
    go_ret
    exact ⟨ret_bool HE.out.symm, rfl⟩
theorem ref_codeFixed (n : Int) (w : World) : Calls Tryz.prog 58 #[.int .i64 n] w fun e w' => e = .returned (.bool (fixedO n)) ∧ w = w' := by
  rcases fixed_cases n with ⟨h, he⟩ | ⟨⟨h1, h2, h3, h4⟩, he⟩
  · rcases h with rfl | rfl | rfl | rfl <;> (go_enter Tryz.func58, Tryz.ntmps58; go_wp2_with fail; go_ret; exact ⟨rfl, rfl⟩)
  · have HE := Lib.hid he
    have e1 : (n == 1010) = false := by simpa using h1
    have e2 : (n == 1900) = false := by simpa using h2
    have e3 : (n == 2900) = false := by simpa using h3
    have e4 : (n == 3000) = false := by simpa using h4
    clear he
    go_enter Tryz.func58, Tryz.ntmps58
    go_wp2_with fail
    go_ret
    exact ⟨ret_bool HE.out.symm, rfl⟩

/-! ### names -/
def badC (c : UInt8) : Bool := decide (c.toNat < 32) || decide (126 < c.toNat)
def nameOk (l : Bytes) : Bool := decide (1 ≤ l.length) && decide (l.length ≤ 20) && !l.any badC
theorem name_1 (c : UInt8) (w : World) : Calls Tryz.prog 46 #[.int .u8 (c.toNat : Int)] w fun e w' => e = .returned (.bool (badC c)) ∧ w = w' := by
  by_cases h : c.toNat < 32
  · have HE := Lib.hid (show badC c = true by simp [badC, h])
    have h' : (c.toNat : Int) < 32 := by omega
    go_enter Tryz.func46, Tryz.ntmps46
    go_wp2_with fail
    go_ret
    exact ⟨ret_bool HE.out.symm, rfl⟩
  · have HE := Lib.hid (show badC c = decide ((126 : Int) < (c.toNat : Int)) by simp [badC, h]; omega)
    have h' : ¬ (c.toNat : Int) < 32 := by omega
    go_enter Tryz.func46, Tryz.ntmps46
    go_wp2_with fail
    go_ret
    exact ⟨ret_bool (by rw [HE.out]), rfl⟩

theorem name_Index {w : World} {v : Value} {l : Bytes} (hv : Bs U w v l) :
    Calls Tryz.prog 62 #[v, .func (.func 46) #[] #[]] w fun e w' => (∃ i : Int, e = .returned (.int .i64 i) ∧ (i < 0 ∧ l.any badC = false ∨ 0 ≤ i ∧ l.any badC = true)) ∧ w = w' := by
  obtain ⟨p, c, rfl, hc1, hc2⟩ := hv.shape
  go_enter Tryz.func62, Tryz.ntmps62
  go_wp2_with fail
  go_loopw [8] (fun s wr => ∃ i : Nat, i ≤ l.length ∧ s = .int .i64 i ∧ (l.take i).any badC = false ∧ wr = w) (fun s _ => l.length - (intOf s).toNat)
  case atStart => exact ⟨0, Nat.zero_le _, rfl, rfl, rfl⟩
  case round =>
    obtain ⟨i, hi, rfl, hall, rfl⟩ := hrel
    have HA := Lib.hid hall
    clear hall
    by_cases hlt : i < l.length
    · obtain ⟨b, off, c', hpp, hrow⟩ := hv.sl.at (by omega)
      injection hpp with hpp _ hc'
      subst hpp; subst hc'
      have hcell := hrow.cell (i := i) (v := .int .u8 ((l[i]).toNat : Int)) (by rw [List.getElem?_map, List.getElem?_eq_getElem hlt]; rfl)
      have hT := List.take_succ_eq_append_getElem hlt
      have hS := fun W => name_1 l[i] W
      have hM : l[i] ∈ l := List.getElem_mem hlt
      generalize l[i] = x at *
      cases hq : badC x with
      | true =>
        rw [hq] at hS
        have HQ := Lib.hid hq
        clear hq hT
        go_wp2_with (go_at_call 46; refine (hS _).mono ?_; rintro e w2 ⟨rfl, rfl⟩)
        go_ret
        exact ⟨⟨_, rfl, .inr ⟨by omega, List.any_eq_true.2 ⟨x, hM, HQ.out⟩⟩⟩, rfl⟩
      | false =>
        rw [hq] at hS
        have HQ := Lib.hid (show (l.take (i + 1)).any badC = false by rw [hT, List.any_append, HA.out]; simp [hq])
        clear hq hT
        go_wp2_with (go_at_call 46; refine (hS _).mono ?_; rintro e w2 ⟨rfl, rfl⟩)
        exact ⟨⟨i + 1, by omega, by go_num, HQ.out, trivial⟩, by simp [intOf]; omega⟩
    · have e : i = l.length := by omega
      subst e
      go_wp2_with fail
      go_ret
      have := HA.out
      rw [List.take_length] at this
      exact ⟨⟨_, rfl, .inl ⟨by decide, this⟩⟩, rfl⟩

theorem name_Contains {w : World} {v : Value} {l : Bytes} (hv : Bs U w v l) :
    Calls Tryz.prog 45 #[v, .func (.func 46) #[] #[]] w fun e w' => e = .returned (.bool (l.any badC)) ∧ w = w' := by
  obtain ⟨p, c, rfl, hc1, hc2⟩ := hv.shape
  have hI := name_Index hv
  cases hq : l.any badC with
  | true =>
    go_enter Tryz.func45, Tryz.ntmps45
    go_wp2_with (go_at_call 62; refine hI.mono ?_; rintro e w' ⟨⟨i, rfl, hi⟩, rfl⟩; have hi' : 0 ≤ i := by (rcases hi with h | h; (· rw [hq] at h; simp at h); exact h.1))
    go_ret
    exact ⟨ret_bool (by simp [hi']), rfl⟩
  | false =>
    go_enter Tryz.func45, Tryz.ntmps45
    go_wp2_with (go_at_call 62; refine hI.mono ?_; rintro e w' ⟨⟨i, rfl, hi⟩, rfl⟩; have hi' : i < 0 := by (rcases hi with h | h; (· exact h.1); (rw [hq] at h; simp at h)))
    go_ret
    exact ⟨ret_bool (by simp; omega), rfl⟩

theorem chart_Name (l : Bytes) (w : World) (hl : l.length ≤ 1048576) :
    Calls Tryz.prog 24 #[.string (str l)] w fun e w' => e = .returned (.bool (nameOk l)) ∧ Ext [] w w' := by
  by_cases hl0 : l = []
  · subst hl0
    have e0 : str ([] : Bytes) = ⟨#[]⟩ := rfl
    rw [e0]
    go_enter Tryz.func24, Tryz.ntmps24
    go_wp2_with fail
    go_ret
    exact ⟨rfl, Ext.refl _ _⟩
  · have hE : List.isEmpty l = false := by cases l <;> simp_all
    by_cases h20 : l.length ≤ 20
    · have HE := Lib.hid (show nameOk l = !l.any badC by (have : 1 ≤ l.length := List.length_pos_iff.2 hl0); simp only [nameOk, decide_eq_true h20, decide_eq_true this]; simp)
      have h20' : ¬ (20 : Int) < ((l.length : Nat) : Int) := by omega
      have hcv := run_cvb l
      have hbs := cv_bs l w (by omega)
      have hx := cv_ext l w
      have hC := name_Contains hbs
      clear hbs
      go_enter Tryz.func24, Tryz.ntmps24
      go_wp2_with (go_at_call 45; refine hC.mono ?_; rintro e w' ⟨rfl, rfl⟩)
      go_ret
      exact ⟨ret_bool (by rw [HE.out]), hx⟩
    · have HE := Lib.hid (show nameOk l = false by simp only [nameOk, decide_eq_false h20]; simp)
      have h20' : (20 : Int) < ((l.length : Nat) : Int) := by omega
      go_enter Tryz.func24, Tryz.ntmps24
      go_wp2_with fail
      go_ret
      exact ⟨ret_bool HE.out.symm, Ext.refl _ _⟩
end Go.Proofs.YtbbfgbkbdhghbaaGreatDoor

set_option linter.unusedVariables false
set_option linter.unusedSimpArgs false
namespace Go.Proofs.YtbbfgbkbdhghbaaGreatDoor
open Go.RowKit

theorem num_sized (n : Int) (w : World) : Calls Tryz.prog 91 #[.int .i64 n] w fun e w' => e = .returned (.bool (n == 1 || n == 2 || n == 4 || n == 8)) ∧ w = w' := by
  by_cases h1 : n = 1
  · subst h1; go_enter Tryz.func91, Tryz.ntmps91; go_wp2; go_ret; exact ⟨rfl, rfl⟩
  · by_cases h2 : n = 2
    · subst h2; go_enter Tryz.func91, Tryz.ntmps91; go_wp2; go_ret; exact ⟨rfl, rfl⟩
    · by_cases h4 : n = 4
      · subst h4; go_enter Tryz.func91, Tryz.ntmps91; go_wp2; go_ret; exact ⟨rfl, rfl⟩
      · by_cases h8 : n = 8
        · subst h8; go_enter Tryz.func91, Tryz.ntmps91; go_wp2; go_ret; exact ⟨rfl, rfl⟩
        · go_enter Tryz.func91, Tryz.ntmps91
          go_wp2
          go_ret
          exact ⟨by simp [h1, h2, h4, h8], rfl⟩

/-- a number has so many bytes -/
def fits (n size : Int) : Bool := size == 8 || (size == 1 && decide (0 ≤ n ∧ n < 256)) || (size == 2 && decide (0 ≤ n ∧ n < 65536)) || (size == 4 && decide (0 ≤ n ∧ n < 4294967296))

theorem div_zero_iff {n m : Int} (h0 : 0 ≤ n) (hm : 0 < m) : (n / m == 0) = decide (n < m) := by
  rw [Bool.eq_iff_iff]
  simp only [beq_iff_eq, decide_eq_true_eq]
  constructor
  · intro h
    have := Int.lt_ediv_add_one_mul_self n hm
    rw [h] at this; omega
  · intro h; exact Int.ediv_eq_zero_of_lt h0 h

theorem num_Right (n size : Int) (w : World) (hs : size = 1 ∨ size = 2 ∨ size = 4 ∨ size = 8) (hn : I64 n) :
    Calls Tryz.prog 66 #[.int .i64 n, .int .i64 size] w fun e w' => e = .returned (.bool (fits n size)) ∧ w = w' := by
  obtain ⟨hn0, hn1⟩ := hn
  by_cases h0 : 0 ≤ n
  · rcases hs with rfl | rfl | rfl | rfl
    all_goals
      go_enter Tryz.func66, Tryz.ntmps66
      go_wp2_with (go_at_call 91; refine (num_sized _ _).mono ?_; rintro e w' ⟨rfl, rfl⟩)
      go_ret
      first | exact ⟨ret_bool (by simp [fits, h0, div_zero_iff h0]), rfl⟩ | exact ⟨rfl, rfl⟩
  · rcases hs with rfl | rfl | rfl | rfl
    all_goals
      go_enter Tryz.func66, Tryz.ntmps66
      go_wp2_with (go_at_call 91; refine (num_sized _ _).mono ?_; rintro e w' ⟨rfl, rfl⟩)
      go_ret
      first | exact ⟨ret_bool (by simp [fits]; omega), rfl⟩ | exact ⟨rfl, rfl⟩

/-- a number's last k bytes, the greatest first -/
def be (n : Int) : Nat → Bytes
  | 0 => []
  | k + 1 => UInt8.ofNat ((n / 256 ^ k) % 256).toNat :: be n k
theorem be_length (n : Int) (k : Nat) : (be n k).length = k := by induction k <;> simp [be, *]

def numPut (l : Bytes) (n : Int) (k : Nat) : Bytes := if fits n k then l ++ be n k else l

theorem byte_of (n : Int) (j : Nat) (hj : j < 8) : (IntKind.u64.wrap n) / 2 ^ (8 * j) % 256 = (n / 256 ^ j) % 256 := by
  have hj' : j = 0 ∨ j = 1 ∨ j = 2 ∨ j = 3 ∨ j = 4 ∨ j = 5 ∨ j = 6 ∨ j = 7 := by omega
  simp only [IntKind.wrap, IntKind.bits, IntKind.signed]
  rcases hj' with rfl | rfl | rfl | rfl | rfl | rfl | rfl | rfl <;> simp <;> omega
theorem be_get (n : Int) (k i : Nat) (hi : i < k) : (be n k)[i]? = some (UInt8.ofNat ((n / 256 ^ (k - 1 - i)) % 256).toNat) := by
  induction k generalizing i with
  | zero => omega
  | succ k ih =>
    cases i with
    | zero => simp [be]
    | succ i =>
      simp only [be, List.getElem?_cons_succ]
      rw [ih i (by omega)]
      have e : k + 1 - 1 - (i + 1) = k - 1 - i := by omega
      rw [e]
theorem be_take (n : Int) (k i : Nat) (hi : i < k) : (be n k).take (i + 1) = (be n k).take i ++ [UInt8.ofNat ((n / 256 ^ (k - 1 - i)) % 256).toNat] := by
  rw [List.take_add_one, be_get n k i hi]
  rfl
theorem bv_mod (x : Int) : bv (UInt8.ofNat (x % 256).toNat) = .int .u8 (x % 256) := by
  unfold bv
  congr 1
  have h0 : 0 ≤ x % 256 := Int.emod_nonneg _ (by decide)
  have h1 : x % 256 < 256 := Int.emod_lt_of_pos _ (by decide)
  rw [UInt8.toNat_ofNat']
  omega

theorem num_Put (b : Value) (l : Bytes) (n : Int) (k : Nat) (w : World) (hb : Bs 5 w b l) (hl : l.length ≤ 4294967296) (hk : k = 1 ∨ k = 2 ∨ k = 4 ∨ k = 8) (hn : I64 n) :
    Calls Tryz.prog 51 #[b, .int .i64 n, .int .i64 k] w fun e w' => ∃ v, e = .returned v ∧ NewB w w' v (numPut l n k) ∧ Ext [] w w' := by
  obtain ⟨p, c, rfl, hc1, hc2⟩ := hb.shape
  have hmk := run_mk (P := Tryz.prog) Tryz.underlying63 row_u8 l.length (l.length + 8) (by omega) (by omega) (by omega)
  have eC : ((l.length + 8 : Nat) : Int) = (l.length : Int) + 8 := by omega
  rw [eC] at hmk
  clear eC
  have h0 := own_mk (base := w.heap.size) (e := 5) (z := .int .u8 0) rfl l.length (l.length + 8) (by omega) (by omega) w (Nat.le_refl _)
  have x0 := (Ext.refl [] w).alloc (.cells (zeroRow (Value.int .u8 0) 1 (l.length + 8)) 5)
  have hb1 := hb.then x0
  clear hc1 hc2 hb
  have hbl : (l.map bv).length = l.length := by simp
  have hbo := bv_one l
  have HT := Lib.hid (show (l.map bv).take l.length ++ (List.replicate l.length (Value.int .u8 0)).drop l.length = l.map bv by rw [List.take_of_length_le (by simp), List.drop_eq_nil_of_le (by simp), List.append_nil])
  cases hf : fits n k with
  | false =>
    have HE := Lib.hid (show numPut l n k = l by simp [numPut, hf])
    go_enter Tryz.func51, Tryz.ntmps51
    go_wp2_with (first | ((with_reducible refine cp Tryz.underlying63 (by kernel_rfl) h0 hb1.sl hbl hbo ?_ ?_ ?_); rfl; rfl; intro w1 ho1 hx1) | (go_at_call 66; refine (num_Right _ _ _ (by omega) hn).mono ?_; rintro e w' ⟨rfl, rfl⟩))
    go_ret
    rw [HE.out]
    rw [HT.out] at ho1
    refine ⟨_, rfl, ho1, (x0.trans hx1 (by simp [Value.ownBlock]))⟩
  | true =>
    have HE := Lib.hid (show numPut l n k = l ++ be n k by simp [numPut, hf])
    go_enter Tryz.func51, Tryz.ntmps51
    go_wp2_with (first | ((with_reducible refine cp Tryz.underlying63 (by kernel_rfl) h0 hb1.sl hbl hbo ?_ ?_ ?_); rfl; rfl; intro w1 ho1 hx1) | (go_at_call 66; refine (num_Right _ _ _ (by omega) hn).mono ?_; rintro e w' ⟨rfl, rfl⟩))
    have ho2 : w1.ownsRow w.heap.size 5 1 (.slice (some ⟨w.heap.size, 0, none⟩) l.length (l.length + 8)) l.length (l.map bv) := by rw [HT.out] at ho1; exact ho1
    have hx2 : Ext [] w w1 := x0.trans hx1 (by simp [Value.ownBlock])
    clear ho1 hx1 hmk h0 x0 hb1
    go_loopw [7, 8] (fun v s wr => ∃ i : Nat, i ≤ k ∧ s = .int .i64 (8 * ((k : Int) - 1 - i)) ∧ wr.ownsRow w.heap.size 5 1 v (l.length + i) ((l ++ (be n k).take i).map bv) ∧ Ext [] w wr) (fun _ s _ => (intOf s + 8).toNat)
    case atStart => exact ⟨0, Nat.zero_le _, by simp, by simpa using ho2, hx2⟩
    case round =>
      obtain ⟨i, hi, rfl, hown, hx⟩ := hrel
      have hB := hx.size
      by_cases hlt : i < k
      · obtain ⟨j, hj⟩ : ∃ j : Nat, j + i + 1 = k := ⟨k - 1 - i, by omega⟩
        have hkj : k - 1 - i = j := by omega
        have hb := byte_of n j (by omega)
        have he := be_take n k i hlt
        rw [hkj] at he
        have hs : 8 * ((k : Int) - 1 - i) = 8 * (j : Int) := by omega
        rw [hs]
        obtain ⟨N, hN⟩ : ∃ N, N = IntKind.u64.wrap n := ⟨_, rfl⟩
        rw [← hN] at hb
        have hcv : ∀ W : World, (convert 3 99 (.int .i64 n)).run Tryz.prog W = .ok (.int .u64 N) W := fun W => by
          rw [hN]; simp [convert, run_underlying Tryz.underlying3, run_underlying Tryz.underlying99, Conv.intToInt]
        obtain ⟨B, hBe⟩ : ∃ B : UInt8, B = UInt8.ofNat ((n / 256 ^ j) % 256).toNat := ⟨_, rfl⟩
        have hby : N / 2 ^ (8 * j) % 256 = (B.toNat : Int) := by
          have q := bv_mod (n / 256 ^ j)
          rw [← hBe, bv] at q
          injection q with _ q
          rw [hb, q]
        rw [← hBe] at he
        have hown' := own_rebase (base' := w.heap.size) hown (own_fresh hown)
        have HA := Lib.hid he
        have hj0 : 0 ≤ 8 * (j : Int) := by omega
        have HJ := Lib.hid hj
        have hj7 : j ≤ 7 := by omega
        clear he hb hN hBe hs hkj hj HT hf hbl
        iterate 80 (first | at_builtin | go_step | skip)
        with_reducible refine app1 (k := 1) Tryz.underlying63 row_u8 (by decide) hown ?_ ?_ ?_ ?_ ?_ ?_ ?_ ?_
        rfl
        exact bv_one [B]
        omega
        omega
        omega
        rfl
        rfl
        intro v1 w2 ho1 hx1 hat
        go_wp2_with fail
        go_roundw
        case rel =>
          refine ⟨i + 1, by omega, ?_, ?_, (hx.trans hx1 ?_)⟩
          · have := HJ.out; congr 1; omega
          · rw [HA.out, ← List.append_assoc, List.map_append]
            exact ho1
          · intro b hb hlt'
            have := own_fresh hown b (by simpa using hb)
            omega
        case measure => have := HJ.out; simp [intOf]; omega
      · have e : i = k := by omega
        subst e
        have hf2 : decide ((0 : Int) ≤ 8 * ((i : Int) - 1 - i)) = false := by simp; omega
        go_wp2_with fail
        go_ret
        rw [HE.out]
        have e2 : l.length + i = (l ++ be n i).length := by simp [be_length]
        have e3 : (be n i).take i = be n i := List.take_of_length_le (by simp [be_length])
        rw [e3, e2] at hown
        exact ⟨_, rfl, hown, hx⟩

theorem num_Put4 (b : Value) (l : Bytes) (n : Int) (w : World) (hb : Bs 5 w b l) (hl : l.length ≤ 4294967296) (hn : 0 ≤ n ∧ n ≤ 4294967295) :
    Calls Tryz.prog 51 #[b, .int .i64 n, .int .i64 4] w fun e w' => ∃ v, e = .returned v ∧ NewB w w' v (l ++ be n 4) ∧ Ext [] w w' := by
  have h := num_Put b l n 4 w hb hl (by simp) (by unfold I64; omega)
  have e : numPut l n 4 = l ++ be n 4 := by
    have h : fits n (4 : Nat) = true := by simp [fits]; omega
    unfold numPut; rw [if_pos h]
  rw [e] at h
  exact h
theorem num_Put8 (b : Value) (l : Bytes) (n : Int) (w : World) (hb : Bs 5 w b l) (hl : l.length ≤ 4294967296) (hn : I64 n) :
    Calls Tryz.prog 51 #[b, .int .i64 n, .int .i64 8] w fun e w' => ∃ v, e = .returned v ∧ NewB w w' v (l ++ be n 8) ∧ Ext [] w w' := by
  have h := num_Put b l n 8 w hb hl (by simp) hn
  have e : numPut l n 8 = l ++ be n 8 := by
    have h : fits n (8 : Nat) = true := by simp [fits]
    unfold numPut; rw [if_pos h]
  rw [e] at h
  exact h
end Go.Proofs.YtbbfgbkbdhghbaaGreatDoor

set_option linter.unusedVariables false
set_option linter.unusedSimpArgs false
namespace Go.Proofs.YtbbfgbkbdhghbaaGreatDoor
open Go.RowKit

/-- a number as it stands in a key -/
def clamp (n : Int) : Int := min (max n 0) 4294967295
theorem clamp_bd (n : Int) : 0 ≤ clamp n ∧ clamp n ≤ 4294967295 := by unfold clamp; omega
def key (tag : UInt8) (nums : List Int) : Bytes := tag :: (nums.take 7).flatMap (fun n => be (clamp n) 4)
theorem key_length (tag : UInt8) (nums : List Int) : (key tag nums).length = 1 + 4 * min nums.length 7 := by
  have : ∀ l : List Int, (l.flatMap (fun n => be (clamp n) 4)).length = 4 * l.length := fun l => by
    induction l with
    | nil => rfl
    | cons a l ih => simp [be_length, ih]; omega
  simp [key, this, Nat.min_comm]; omega

theorem clamp_ite (x : Int) : (if 4294967295 < (if x < 0 then 0 else x) then 4294967295 else if x < 0 then 0 else x) = clamp x := by unfold clamp; omega
theorem numPut_clamp (l : Bytes) (n : Int) : numPut l (clamp n) 4 = l ++ be (clamp n) 4 := by
  have := clamp_bd n
  have h : fits (clamp n) (4 : Nat) = true := by simp [fits]; omega
  unfold numPut; rw [if_pos h]

theorem keys_Key (tag : UInt8) (v : Value) (xs : List Int) (w : World) (hv : Is w v xs) (h7 : xs.length ≤ 7) :
    Calls Tryz.prog 28 #[.int .u8 (tag.toNat : Int), v] w fun e w' => ∃ r, e = .returned r ∧ NewB w w' r (key tag xs) ∧ Ext [] w w' := by
  obtain ⟨p, c, rfl, hc1, hc2⟩ := hv.shape
  have x0 := (Ext.refl [] w).alloc (.cells #[.int .u8 (tag.toNat : Int)] 5)
  have h0 := own_lit w.heap.size 5 1 #[.int .u8 (tag.toNat : Int)] 1 rfl w (Nat.le_refl _) (by decide)
  have h7' : (xs.length : Int) ≤ 7 := by omega
  go_enter Tryz.func28, Tryz.ntmps28
  go_wp2_with fail
  go_loopw [5, 16] (fun o s wr => ∃ i : Nat, i ≤ xs.length ∧ s = .int .i64 i ∧ NewB w wr o (tag :: (xs.take i).flatMap (fun n => be (clamp n) 4)) ∧ Ext [] w wr) (fun _ s _ => xs.length - (intOf s).toNat)
  case atStart => exact ⟨0, Nat.zero_le _, rfl, by simpa [NewB, bv] using h0, x0⟩
  case round =>
    obtain ⟨i, hi, rfl, hown, hx⟩ := hrel
    by_cases hlt : i < xs.length
    · obtain ⟨b, off, c', hp, hrow⟩ := hv.sl.at (by omega)
      injection hp with hp _ hc'
      subst hp; subst hc'
      have hcell := (hrow.ext hx (by simp)).cell (i := i) (v := .int .i64 xs[i]) (by simp [hlt, iv])
      have hlen : (tag :: (xs.take i).flatMap (fun n => be (clamp n) 4)).length ≤ 4294967296 := by
        have e : (tag :: (xs.take i).flatMap (fun n => be (clamp n) 4)) = key tag (xs.take i) := by
          rw [key, List.take_of_length_le (i := 7)]; simp; omega
        rw [e, key_length]; omega
      have HF := Lib.hid (show (xs.take (i + 1)).flatMap (fun n => be (clamp n) 4) = (xs.take i).flatMap (fun n => be (clamp n) 4) ++ be (clamp xs[i]) 4 by
        rw [List.take_succ_eq_append_getElem hlt, List.flatMap_append]; simp)
      have hsz := hx.size
      go_wp2_with (go_at_call 51; refine (num_Put4 _ _ _ _ hown.bs hlen (by omega)).mono ?_; rintro e w' ⟨v, rfl, hn, hx2⟩)
      all_goals
        go_roundw
        case rel =>
          refine ⟨i + 1, by omega, by go_num, ?_, hx.then hx2⟩
          rw [HF.out]
          rw [clamp_ite] at hn
          exact hn.later hsz
        case measure => simp [intOf]; omega
    · have e : i = xs.length := by omega
      subst e
      go_wp2_with fail
      go_ret
      refine ⟨_, rfl, ?_, hx⟩
      rw [List.take_length] at hown
      rw [key, List.take_of_length_le (by omega)]
      exact hown
end Go.Proofs.YtbbfgbkbdhghbaaGreatDoor

set_option linter.unusedVariables false
set_option linter.unusedSimpArgs false
namespace Go.Proofs.YtbbfgbkbdhghbaaGreatDoor
open Go.RowKit
variable {U : TypeId}

/-- the number that bytes are, the greatest first -/
def ofBe (l : Bytes) : Int := l.foldl (fun n b => n * 256 + (b.toNat : Int)) 0
theorem ofBe_snoc (l : Bytes) (b : UInt8) : ofBe (l ++ [b]) = ofBe l * 256 + (b.toNat : Int) := by simp [ofBe]
theorem ofBe_take (l : Bytes) (k : Nat) (hk : k < l.length) : ofBe (l.take (k + 1)) = ofBe (l.take k) * 256 + (l[k].toNat : Int) := by
  rw [List.take_succ_eq_append_getElem hk, ofBe_snoc]
theorem ofBe_bdk (l : Bytes) : ∀ k, k ≤ l.length → 0 ≤ ofBe (l.take k) ∧ ofBe (l.take k) < 256 ^ k
  | 0, _ => by simp [ofBe]
  | k + 1, hk => by
    have ih := ofBe_bdk l k (by omega)
    rw [ofBe_take l k (by omega), Int.pow_succ]
    have := l[k].toNat_lt
    omega
theorem ofBe_bd (l : Bytes) : 0 ≤ ofBe l ∧ ofBe l < 256 ^ l.length := by
  have := ofBe_bdk l l.length (Nat.le_refl _)
  rwa [List.take_length] at this

/-- n<<8 | x, at 64 bits -/
theorem u64_step (n : Int) (x : UInt8) (h0 : 0 ≤ n) (h1 : n < 72057594037927936) : bits .or .u64 (n * 256) (x.toNat : Int) = n * 256 + x.toNat := by
  obtain ⟨m, rfl⟩ := Int.eq_ofNat_of_zero_le h0
  have hx := x.toNat_lt
  have e : (m * 256) ||| x.toNat = m * 256 + x.toNat := by
    have := Nat.shiftLeft_add_eq_or_of_lt (i := 8) (b := x.toNat) x.toNat_lt m
    rw [Nat.shiftLeft_eq] at this
    simpa using this.symm
  rw [u64_or _ _ (by omega) (by omega) (by omega) (by omega)]
  have q : ((m : Int) * 256).toNat = m * 256 := by omega
  rw [q, Int.toNat_natCast, e]
  omega

theorem num_Get4 {w : World} {b : Value} {l : Bytes} (at_ size : Nat) (hb : Bs U w b l) (hs : size = 4 ∨ size = 8) (ha : at_ + size ≤ l.length) :
    Calls Tryz.prog 90 #[b, .int .i64 at_, .int .i64 size] w fun e w' => e = .returned (.tuple #[.int .i64 (wrap64 (ofBe ((l.drop at_).take size))), .int .i64 0]) ∧ w = w' := by
  obtain ⟨b0, off, c, rfl, hrow⟩ := hb.sl.at (by omega)
  have hc : l.length ≤ c ∧ c ≤ 9223372036854775807 := by obtain ⟨p, c1, e, q1, q2⟩ := hb.shape; injection e with _ _ e; subst e; exact ⟨q1, q2⟩
  obtain ⟨hc1, hc2⟩ := hc
  have h1 : ¬ ((at_ : Int) < 0) := by omega
  have h2 : ¬ ((l.length : Int) < (size : Int)) := by omega
  have h3 : ¬ ((l.length : Int) - (size : Int) < (at_ : Int)) := by omega
  have hss : ((size : Int) == 1 || (size : Int) == 2 || (size : Int) == 4 || (size : Int) == 8) = true := by rcases hs with rfl | rfl <;> rfl
  have hN := num_sized (size : Int) w
  rw [hss] at hN
  clear hss
  have h4 : at_ + size ≤ c := by omega
  go_enter Tryz.func90, Tryz.ntmps90
  go_wp2_with (go_at_call 91; refine hN.mono ?_; rintro e w' ⟨rfl, rfl⟩)
  go_loopw [8, 37] (fun n x wr => ∃ i : Nat, i ≤ size ∧ x = .int .i64 i ∧ n = .int .u64 (ofBe ((l.drop at_).take i)) ∧ wr = w) (fun _ x _ => size - (intOf x).toNat)
  case atStart => exact ⟨0, Nat.zero_le _, rfl, rfl, rfl⟩
  case round =>
    obtain ⟨i, hi, rfl, rfl, rfl⟩ := hrel
    by_cases hlt : i < size
    · have hd : i < (l.drop at_).length := by rw [List.length_drop]; omega
      have hcell := hrow.cell (i := at_ + i) (v := .int .u8 (((l.drop at_)[i]).toNat : Int)) (by rw [List.getElem?_map, List.getElem_drop, List.getElem?_eq_getElem (by omega)]; rfl)
      rw [← Nat.add_assoc] at hcell
      have HE := Lib.hid (ofBe_take _ i hd)
      have hb0 := ofBe_bdk _ i (Nat.le_of_lt hd)
      have hp : (256 : Int) ^ i ≤ 72057594037927936 := by
        have : i = 0 ∨ i = 1 ∨ i = 2 ∨ i = 3 ∨ i = 4 ∨ i = 5 ∨ i = 6 ∨ i = 7 := by omega
        rcases this with h | h | h | h | h | h | h | h <;> rw [h] <;> decide
      generalize (l.drop at_)[i] = x at *
      generalize ofBe ((l.drop at_).take i) = n at *
      have hx := x.toNat_lt
      go_wp2_with fail
      refine ⟨⟨i + 1, by omega, by go_num, ?_, trivial⟩, by simp [intOf]; omega⟩
      rw [HE.out, u64_step n x (by omega) (by omega)]
    · have e : i = size := by omega
      subst e
      have hT : ofBe ((l.drop at_).take i) < 18446744073709551616 ∧ 0 ≤ ofBe ((l.drop at_).take i) := by
        have hb0 := ofBe_bdk (l.drop at_) i (by rw [List.length_drop]; omega)
        rcases hs with rfl | rfl
        · exact ⟨by have := hb0.2; omega, hb0.1⟩
        · exact ⟨by have := hb0.2; omega, hb0.1⟩
      obtain ⟨hT1, hT2⟩ := hT
      go_wp2_with fail
      go_ret2
      exact ⟨rfl, rfl⟩
end Go.Proofs.YtbbfgbkbdhghbaaGreatDoor

set_option linter.unusedVariables false
set_option linter.unusedSimpArgs false
namespace Go.Proofs.YtbbfgbkbdhghbaaGreatDoor
open Go.RowKit
variable {U : TypeId}

def nums4 (rest : Bytes) : List Int := (List.range (rest.length / 4)).map fun i => ofBe ((rest.drop (4 * i)).take 4)
def splitK : Bytes → Option (UInt8 × List Int)
  | [] => none
  | t :: rest => if rest.length % 4 = 0 ∧ rest.length ≤ 28 then some (t, nums4 rest) else none

theorem Bs.drop {T : TypeId} {w : World} {b off n c : Nat} {l : Bytes} (h : Bs T w (.slice (some ⟨b, off, none⟩) n c) l) (k : Nat) (hk : k < l.length) : Bs T w (.slice (some ⟨b, off + k, none⟩) (l.length - k) (c - k)) (l.drop k) := by
  obtain ⟨p', c', e, h1, h2, h3⟩ := h
  injection e with e1 e2 e3
  subst e1; subst e2; subst e3
  rcases h3 with ⟨h3, _⟩ | ⟨h3, b', off', e, hr⟩
  · omega
  · injection e with e; injection e with e1 e2; subst e1; subst e2
    refine ⟨_, _, by rw [List.length_drop], by rw [List.length_drop]; omega, by omega, .inr ⟨by rw [List.length_drop]; omega, _, _, rfl, ?_⟩⟩
    have := hr.sub k (l.length - k) (by simp; omega)
    rw [List.take_of_length_le (by simp)] at this
    rw [List.map_drop]
    exact this

theorem keys_Split_no {w : World} {v : Value} {k : Bytes} (hk : Bs U w v k) (hs : splitK k = none) :
    Calls Tryz.prog 65 #[v] w fun e w' => e = .returned (.tuple #[.int .u8 0, .slice none 0 0, .bool false]) ∧ w = w' := by
  cases k with
  | nil =>
    obtain ⟨p, c, rfl, _, _⟩ := hk.shape
    go_enter Tryz.func65, Tryz.ntmps65
    go_wp2_with fail
    go_ret3
    exact ⟨rfl, rfl⟩
  | cons t rest =>
    obtain ⟨b, off, c, rfl, hrow⟩ := hk.sl.at (by simp)
    have hc : rest.length + 1 ≤ c ∧ c ≤ 9223372036854775807 := by obtain ⟨p, c1, e, q1, q2⟩ := hk.shape; injection e with _ _ e; subst e; exact ⟨q1, q2⟩
    obtain ⟨hc1, hc2⟩ := hc
    have hs' : ¬ rest.length % 4 = 0 ∨ rest.length % 4 = 0 ∧ ¬ rest.length ≤ 28 := by
      simp only [splitK] at hs
      split at hs
      · simp at hs
      · omega
    rcases hs' with h1 | ⟨h1, h2⟩
    · have q1 : (((rest.length : Int) % 4) != 0) = true := by rw [bne_iff_ne]; omega
      go_enter Tryz.func65, Tryz.ntmps65
      go_wp2_with fail
      go_ret3
      exact ⟨rfl, rfl⟩
    · have q1 : (((rest.length : Int) % 4) != 0) = false := by rw [bne_eq_false_iff_eq]; omega
      have q2 : (28 : Int) < (rest.length : Int) := by omega
      go_enter Tryz.func65, Tryz.ntmps65
      go_wp2_with fail
      go_ret3
      exact ⟨rfl, rfl⟩

theorem nums4_take (rest : Bytes) (i : Nat) : (List.range (i + 1)).map (fun i => ofBe ((rest.drop (4 * i)).take 4)) = (List.range i).map (fun i => ofBe ((rest.drop (4 * i)).take 4)) ++ [ofBe ((rest.drop (4 * i)).take 4)] := by
  rw [List.range_succ, List.map_append]; rfl

theorem keys_Split {w : World} {v : Value} {k : Bytes} {t : UInt8} {l : List Int} (hk : Bs U w v k) (hs : splitK k = some (t, l)) :
    Calls Tryz.prog 65 #[v] w fun e w' => ∃ r, e = .returned (.tuple #[.int .u8 (t.toNat : Int), r, .bool true]) ∧ NewI w w' r l ∧ Ext [] w w' := by
  cases k with
  | nil => simp [splitK] at hs
  | cons t' rest =>
    obtain ⟨b, off, c, rfl, hrow⟩ := hk.sl.at (by simp)
    have hc : rest.length + 1 ≤ c ∧ c ≤ 9223372036854775807 := by obtain ⟨p, c1, e, q1, q2⟩ := hk.shape; injection e with _ _ e; subst e; exact ⟨q1, q2⟩
    obtain ⟨hc1, hc2⟩ := hc
    simp only [splitK] at hs
    split at hs
    · rename_i hl
      obtain ⟨hl1, hl2⟩ := hl
      simp only [Option.some.injEq, Prod.mk.injEq] at hs
      obtain ⟨rfl, rfl⟩ := hs
      have q1 : (((rest.length : Int) % 4) != 0) = false := by rw [bne_eq_false_iff_eq]; omega
      have q2 : ¬ (28 : Int) < (rest.length : Int) := by omega
      have hcell := hrow.cell (i := 0) (v := .int .u8 (t'.toNat : Int)) rfl
      rw [Nat.add_zero] at hcell
      rcases Nat.eq_zero_or_pos rest.length with h0 | hpos
      · have : rest = [] := List.eq_nil_of_length_eq_zero h0
        subst this
        by_cases hcc : c = 1
        · subst hcc
          go_enter Tryz.func65, Tryz.ntmps65
          go_wp2_with fail
          go_loopw [6, 7] (fun o x wr => ∃ i : Nat, 4 * i ≤ 0 ∧ x = .int .i64 (4 * (i : Int)) ∧ NewI w wr o ((List.range i).map fun i => ofBe ((([] : Bytes).drop (4 * i)).take 4)) ∧ Ext [] w wr) (fun _ x _ => 0 - (intOf x).toNat)
          case atStart => exact ⟨0, Nat.zero_le _, rfl, own_nil _ _ _ _, Ext.refl _ _⟩
          case round =>
            obtain ⟨i, hi, rfl, ho, hx⟩ := hrel
            have eI : ([] : Bytes).length / 4 = i := by simp; omega
            have hcell2 := hx.cell (by simp) hcell
            have q3 : ¬ (4 * (i : Int) < 0) := by omega
            go_wp2_with fail
            go_ret3
            exact ⟨_, rfl, by rw [nums4, eI]; exact ho, hx⟩
        · skip
          go_enter Tryz.func65, Tryz.ntmps65
          go_wp2_with fail
          go_loopw [6, 7] (fun o x wr => ∃ i : Nat, 4 * i ≤ 0 ∧ x = .int .i64 (4 * (i : Int)) ∧ NewI w wr o ((List.range i).map fun i => ofBe ((([] : Bytes).drop (4 * i)).take 4)) ∧ Ext [] w wr) (fun _ x _ => 0 - (intOf x).toNat)
          case atStart => exact ⟨0, Nat.zero_le _, rfl, own_nil _ _ _ _, Ext.refl _ _⟩
          case round =>
            obtain ⟨i, hi, rfl, ho, hx⟩ := hrel
            have eI : ([] : Bytes).length / 4 = i := by simp; omega
            have hcell2 := hx.cell (by simp) hcell
            have q3 : ¬ (4 * (i : Int) < 0) := by omega
            go_wp2_with fail
            go_ret3
            exact ⟨_, rfl, by rw [nums4, eI]; exact ho, hx⟩
      · have hrest : Bs U w (.slice (some ⟨b, off + 1, none⟩) rest.length (c - 1)) rest := by
          have := hk.drop 1 (by simp; omega)
          simpa using this
        go_enter Tryz.func65, Tryz.ntmps65
        go_wp2_with fail
        go_loopw [6, 7] (fun o x wr => ∃ i : Nat, 4 * i ≤ rest.length ∧ x = .int .i64 (4 * (i : Int)) ∧ NewI w wr o ((List.range i).map fun i => ofBe ((rest.drop (4 * i)).take 4)) ∧ Ext [] w wr) (fun _ x _ => rest.length - (intOf x).toNat)
        case atStart => exact ⟨0, Nat.zero_le _, rfl, own_nil _ _ _ _, Ext.refl _ _⟩
        case round =>
          obtain ⟨i, hi, rfl, ho, hx⟩ := hrel
          by_cases hlt : 4 * i < rest.length
          · have h44 : 4 * i + 4 ≤ rest.length := by omega
            have hG := num_Get4 (4 * i) 4 (hrest.then hx) (.inl rfl) h44
            have HF := Lib.hid (nums4_take rest i)
            have hbd := ofBe_bdk (rest.drop (4 * i)) 4 (by rw [List.length_drop]; omega)
            obtain ⟨hb0, hb1⟩ := hbd
            have HW := Lib.hid (show wrap64 (ofBe ((rest.drop (4 * i)).take 4)) = ofBe ((rest.drop (4 * i)).take 4) by unfold wrap64; omega)
            rw [HW.out] at hG
            have hsz := hx.size
            have hlen : ((List.range i).map fun i => ofBe ((rest.drop (4 * i)).take 4)).length ≤ 28 := by simp; omega
            clear hk hrow hcell
            generalize hnn : ofBe ((rest.drop (4 * i)).take 4) = nn at *
            have HN := Lib.hid hnn
            clear hnn
            iterate 40 (first | at_builtin | go_step | skip)
            go_at_call 90
            refine hG.mono ?_
            rintro e w1 ⟨rfl, rfl⟩
            dsimp only
            iterate 40 (first | at_builtin | go_step | skip)
            with_reducible refine app1 (k := 1) Tryz.underlying22 row_int (by decide) ho.own ?_ ?_ ?_ ?_ ?_ ?_ ?_ ?_
            rfl
            exact iv_one [nn]
            omega
            omega
            omega
            rfl
            rfl
            intro v1 w2 ho1 hx1 hat
            go_wp2_with fail
            go_roundw
            case rel =>
              refine ⟨i + 1, by omega, by go_num, ?_, hx.trans hx1 (fun b hb hlt' => by have := own_fresh ho b (by simpa using hb); omega)⟩
              rw [HF.out]
              simpa [NewI, iv] using ho1
            case measure => simp [intOf]; omega
          · have eI : rest.length / 4 = i := by omega
            have hcell2 := hx.cell (by simp) hcell
            have q3 : ¬ (4 * (i : Int) < (rest.length : Int)) := by omega
            go_wp2_with fail
            go_ret3
            exact ⟨_, rfl, by rw [nums4, eI]; exact ho, hx⟩
    · simp at hs
end Go.Proofs.YtbbfgbkbdhghbaaGreatDoor

set_option linter.unusedVariables false
set_option linter.unusedSimpArgs false
namespace Go.Proofs.YtbbfgbkbdhghbaaGreatDoor
open Go.RowKit

set_option maxHeartbeats 1000000 in
theorem view_base {U : TypeId} {w : World} {V : VW} {n : Nat} {was now : Tbl} (h : IsView w V n was now) (hn : n ≤ 1099511627776) (pv : Value) (p : Bytes) (hp : Bs U w pv p) :
    Calls Tryz.prog 84 #[.pointer (some ⟨V.s, 0, none⟩), pv] w fun e w' => ∃ r L, e = .returned r ∧ OwnP w.heap.size w' r L ∧ Ext [] w w' ∧ (L.map (·.1)).Nodup ∧ L.length ≤ n ∧ ∀ k v, (k, v) ∈ L ↔ tget was k = some v ∧ p <+: k := by
  obtain ⟨c0, c1, c2, c3⟩ := h.cell
  have hlt := h.lt
  obtain ⟨ch, me, chx, mex, hc, hm, ec, em, hn2, hwas, _, _⟩ := h.maps
  have hml := em.length
  have hnd := hm.nodup
  have HWas := Lib.hid hwas
  have HE := Lib.hid em
  have HND := Lib.hid hnd
  have HL := Lib.hid (show me.length ≤ n by omega)
  have hF := h.fwas
  have HF := Lib.hid hF
  obtain ⟨hr, hit⟩ := Iter.start (P := Tryz.prog) hm Tryz.underlying48
  have x1 := (Ext.refl [] w).alloc (.mapIter (some V.m) (hm.choose_spec.choose) #[] (hm.choose_spec.choose))
  have hs1 : w.heap.size < (w.alloc (.mapIter (some V.m) (hm.choose_spec.choose) #[] (hm.choose_spec.choose))).heap.size := by simp
  generalize (w.alloc (.mapIter (some V.m) (hm.choose_spec.choose) #[] (hm.choose_spec.choose))) = w1 at hr hit x1 hs1
  clear hwas em hnd hml hn2 hc ec hm hF h
  go_enter Tryz.func84, Tryz.ntmps84
  go_wp2_with fail
  go_loopw [7] (fun v wr => ∃ L left, OwnP (w.heap.size + 1) wr v L ∧ Iter strEnc wr w.heap.size V.m me left ∧ (L.map (·.1) ++ (left.filter (fun q => p.isPrefixOf q.1)).map (·.1)).Perm ((me.filter (fun q => p.isPrefixOf q.1)).map (·.1)) ∧ (∀ q ∈ L, tget was q.1 = some q.2) ∧ Ext [] w wr ∧ w.heap.size < wr.heap.size) (fun _ wr => iterLeft wr w.heap.size)
  case atStart => exact ⟨[], me, OwnP.nil _ _, hit, List.Perm.refl _, by simp, x1, hs1⟩
  case round =>
    obtain ⟨L, left, hP, hi, hperm, hall, hx, hsz⟩ := hrel
    clear hr hit x1 hs1
    have HP := Lib.hid hperm
    have HA := Lib.hid hall
    have hLl : L.length ≤ 1099511627776 := by
      have := hperm.length_eq
      have h2 : (me.filter (fun q => p.isPrefixOf q.1)).length ≤ me.length := List.length_filter_le _ _
      have h3 := HL.out
      simp at this
      omega
    clear hperm hall
    rcases hi.next (P := Tryz.prog) 0 with ⟨h1, h2⟩ | ⟨pre, k, v, post, w2, h1, h2, h3, h4, h5, h6, h7⟩
    · have H1 := Lib.hid h1
      clear h1
      go_wp2_with fail
      go_ret
      have hperm := HP.out
      rw [H1.out] at hperm
      simp only [List.filter_nil, List.map_nil, List.append_nil] at hperm
      have hnd2 : ((me.filter (fun q => p.isPrefixOf q.1)).map (·.1)).Nodup := (List.filter_sublist.map _).nodup HND.out
      refine ⟨_, rfl, L, hP.rebase (Nat.le_succ _), hx, hperm.nodup_iff.2 hnd2, ?_, fun k v => ⟨fun hk => ⟨HA.out _ hk, ?_⟩, fun ⟨hk, hpk⟩ => ?_⟩⟩
      · have := hperm.length_eq
        have h2 : (me.filter (fun q => p.isPrefixOf q.1)).length ≤ me.length := List.length_filter_le _ _
        have h3 := HL.out
        simp at this
        omega
      · have : k ∈ (me.filter (fun q => p.isPrefixOf q.1)).map (·.1) := hperm.mem_iff.1 (List.mem_map.2 ⟨_, hk, rfl⟩)
        obtain ⟨q, hq, rfl⟩ := List.mem_map.1 this
        exact List.isPrefixOf_iff_prefix.1 (List.mem_filter.1 hq).2
      · rw [HWas.out] at hk
        rcases HE.out.look k with ⟨_, e2⟩ | ⟨v', x, e1, e2, _⟩
        · rw [e2] at hk; cases hk
        · have hin := mem_of_alook e1
          have : k ∈ L.map (·.1) := hperm.mem_iff.2 (List.mem_map.2 ⟨_, List.mem_filter.2 ⟨hin, List.isPrefixOf_iff_prefix.2 hpk⟩, rfl⟩)
          obtain ⟨⟨k', v''⟩, hq, e⟩ := List.mem_map.1 this
          simp at e
          subst e
          have hh := HA.out _ hq
          simp only at hh
          rw [HWas.out, hk] at hh
          injection hh with hh
          rw [hh]; exact hq
    · change _ = Result.ok (Value.tuple #[Value.bool true, Value.string (str k), v]) w2 at h3
      change _ = Result.ok (Value.tuple #[Value.string (str k), v]) w2 at h4
      have H1 := Lib.hid h1
      have hk := mem_alook HND.out h2
      have hsz2 : w.heap.size < w2.heap.size := by omega
      rcases HE.out.look k with ⟨e1, _⟩ | ⟨v', x, e1, e2, hb⟩
      · rw [hk] at e1; cases e1
      rw [hk] at e1
      injection e1 with e1
      subst e1
      have hwk : tget was k = some x := by rw [HWas.out, e2]
      have HK := Lib.hid hwk
      have hfit := HF.out _ (tget_mem hwk)
      simp only [Fit2] at hfit
      obtain ⟨vp, vc, rfl, _, _⟩ := hb.shape
      have hib : ∀ b ∈ [w.heap.size], ∀ cs fr, wr.heap[b]? ≠ some (.cells cs 5 fr) := by
        intro b hb cs fr
        simp at hb
        subst hb
        exact hi.ne_cells _ _ _
      have x2 : Ext [] w w2 := hx.trans h6 (by simp)
      have hP2 : OwnP (w.heap.size + 1) w2 u7 L := by
        obtain ⟨hs, q1, q2⟩ := hP
        exact OwnP.ext ⟨hs, q1, q2⟩ h6 (fun b hb hm => by have := own_fresh q1 b hb; simp at hm; omega) hib
      have hcv := run_cvb k
      have xc := cv_ext k w2
      have hbc := cv_bs k w2 (by omega)
      have hpp := (hp.then x2).then xc
      have hmeas : iterLeft wr w.heap.size = pre.length + 1 + post.length := by rw [hi.left_eq, h1]; simp; omega
      have HM := Lib.hid hmeas
      clear h1 h2 h7 hk e2 hwk hmeas
      cases hpk : p.isPrefixOf k with
      | false =>
        have HQ := Lib.hid hpk
        have hH := bytes_HasPrefix _ _ _ _ _ hbc hpp
        rw [hpk] at hH
        clear hpk
        iterate 60 (first | at_builtin | go_step | skip)
        go_at_call 86
        refine hH.mono ?_
        rintro e w' ⟨rfl, rfl⟩
        go_wp2_with fail
        go_roundw
        case rel =>
          refine ⟨L, pre ++ post, hP2.then xc, h5.ext xc (by simp) (by simp), ?_, HA.out, x2.then xc, by have := xc.size; omega⟩
          have := HP.out
          rw [H1.out] at this
          simpa [List.filter_cons, HQ.out] using this
        case measure =>
          rw [(h5.ext xc (by simp) (by simp)).left_eq, HM.out]; simp
      | true =>
        have HQ := Lib.hid hpk
        have hH := bytes_HasPrefix _ _ _ _ _ hbc hpp
        rw [hpk] at hH
        clear hpk
        have xd := cv_ext k (cvW w2 k)
        have hbd := cv_bs k (cvW w2 k) (by omega)
        have hbv := ((hb.then x2).then xc).then xd
        iterate 60 (first | at_builtin | go_step | skip)
        go_at_call 86
        refine hH.mono ?_
        rintro e w' ⟨rfl, rfl⟩
        dsimp only
        iterate 60 (first | at_builtin | go_step | skip)
        go_at_call 50
        refine (bytes_Clone _ _ _ hbv (by omega)).mono ?_
        rintro e w3 ⟨r2, rfl, hn3, x5⟩
        obtain ⟨rp, rc, rfl, _, _⟩ := hn3.bs.sl.shape
        have xx := (xc.then xd).then x5
        obtain ⟨hs, ho, hrel⟩ := hP2.then xx
        have hbk3 := hbd.then x5
        have hsz3 := xx.size
        have hfr := own_fresh ho
        dsimp only
        iterate 60 (first | at_builtin | go_step | skip)
        with_reducible refine app1 (k := 2) Tryz.underlying51 row_pair (by decide) ho ?_ ?_ ?_ ?_ ?_ ?_ ?_ ?_
        rfl
        simp [Value.oneCell']
        omega
        omega
        omega
        rfl
        rfl
        intro v1 w4 ho1 hx1 hat
        go_wp2_with fail
        go_roundw
        case rel =>
          have hr1 : w.heap.size ∉ u7.ownBlock.toList := fun hm => by have := hfr _ (by simpa using hm); omega
          have hr2 : V.m ∉ u7.ownBlock.toList := fun hm => by have := hfr _ (by simpa using hm); omega
          refine ⟨L ++ [(k, x)], pre ++ post, OwnP.push (h := (_, _)) ho hrel ⟨hbk3, hn3.bs⟩ ho1 hx1, (h5.ext xx (by simp) (by simp)).ext hx1 hr2 hr1, ?_, ?_, (x2.then xx).trans hx1 (fun b hb hlt' => by have := hfr b (by simpa using hb); omega), by have := hx1.size; omega⟩
          · have := HP.out
            rw [H1.out] at this
            simp only [List.filter_append, List.filter_cons, HQ.out, if_true, List.map_append, List.map_cons, List.map_nil] at this ⊢
            refine List.Perm.trans ?_ this
            simp
            exact List.Perm.append_left _ List.perm_middle.symm
          · intro q hq
            rcases List.mem_append.1 hq with hq | hq
            · exact HA.out q hq
            · simp at hq; subst hq; exact HK.out
        case measure =>
          have hr1 : w.heap.size ∉ u7.ownBlock.toList := fun hm => by have := hfr _ (by simpa using hm); omega
          have hr2 : V.m ∉ u7.ownBlock.toList := fun hm => by have := hfr _ (by simpa using hm); omega
          rw [((h5.ext xx (by simp) (by simp)).ext hx1 hr2 hr1).left_eq, HM.out]; simp
end Go.Proofs.YtbbfgbkbdhghbaaGreatDoor

set_option linter.unusedVariables false
set_option linter.unusedSimpArgs false
namespace Go.Proofs.YtbbfgbkbdhghbaaGreatDoor
open Go.RowKit

theorem scan_1 {w : World} {V : VW} {ch : List (Bytes × Value)} {chx : List (Bytes × Option Bytes)} {bx : Nat} {kv vv : Value} {k v : Bytes}
    (hbx : w.cell? ⟨bx, 0, none⟩ = some (.pointer (some ⟨V.s, 0, none⟩))) (c0 : w.cell? ⟨V.s, 0, none⟩ = some (.map (some V.c))) (hc : MapIs strEnc w V.c ch) (ec : Ents (ShapeV w) ch chx) (hk : Bs 5 w kv k) (hv : Bs 5 w vv v) :
    Calls Tryz.prog 85 #[.agg #[kv, vv], .pointer (some ⟨bx, 0, none⟩)] w fun e w' => e = .returned (.bool (alook ch k).isSome) ∧ Ext [] w w' := by
  obtain ⟨kp, kc, rfl, _, _⟩ := hk.shape
  obtain ⟨vp, vc, rfl, _, _⟩ := hv.shape
  have x0 := (Ext.refl [] w).alloc (.cells #[.slice kp k.length kc, .slice vp v.length vc] 95)
  have xa := x0.drew
  have hlook := (hc.ext xa (by simp)).look (P := Tryz.prog) (t := 47) Tryz.underlying47 Tryz.underlying9 (zero_shape _) k
  have hstr := run_str (P := Tryz.prog) Tryz.underlying63 Tryz.underlying5 Tryz.underlying9 (hk.then xa)
  change (Instr.lookup _ _ (.string (str k)) true).run _ _ = _ at hlook
  have d0 := xa.cell (by simp) hbx
  have d1 := xa.cell (by simp) c0
  obtain ⟨z1, z2, hz⟩ : ∃ p n c b, (alook ch k).getD (.agg #[.slice none 0 0, .bool false]) = .agg #[.slice p n c, .bool b] := by
    rcases ec.look k with ⟨e1, _⟩ | ⟨v, x, e1, _, hb⟩
    · exact ⟨_, _, _, _, by rw [e1]; rfl⟩
    · cases x with
      | none => simp only [ShapeV] at hb; subst hb; exact ⟨_, _, _, _, by rw [e1]; rfl⟩
      | some x => obtain ⟨v, rfl, hb2⟩ := hb; obtain ⟨p, c, rfl, _, _⟩ := hb2.shape; exact ⟨_, _, _, _, by rw [e1]; rfl⟩
  obtain ⟨z3, z4, hz⟩ := hz
  rw [hz] at hlook
  have xb := (x0.alloc (.cells #[.slice none 0 0, .bool false] 82)).drew
  have hlook2 := (hc.ext xb (by simp)).look (P := Tryz.prog) (t := 47) Tryz.underlying47 Tryz.underlying9 (zero_shape _) k
  have hstr2 := run_str (P := Tryz.prog) Tryz.underlying63 Tryz.underlying5 Tryz.underlying9 (hk.then xb)
  change (Instr.lookup _ _ (.string (str k)) true).run _ _ = _ at hlook2
  rw [hz] at hlook2
  have d2 := xb.cell (by simp) hbx
  have d3 := xb.cell (by simp) c0
  clear hz hk hv hc ec hbx c0
  go_enter Tryz.func85, Tryz.ntmps85
  iterate 40 (first | at_builtin | go_step | skip)
  go_region
  all_goals go_wp2_with fail
  all_goals go_ret
  all_goals exact ⟨rfl, x0.drew.alloc _⟩

/-- pairs that are read: their headers one behind the other, and what lies behind each -/
def RdP (w : World) (v : Value) (hs : List (Value × Value)) (l : Tbl) : Prop := Sl w 95 v l.length (cells2 hs) ∧ Rel2 (PairH w) hs l
theorem RdP.then {w w' : World} {v : Value} {hs : List (Value × Value)} {l : Tbl} (h : RdP w v hs l) (e : Ext [] w w') : RdP w' v hs l := ⟨h.1.then e, h.2.imp fun _ _ q => q.ext e (by simp)⟩
/-- the header at i -/
theorem RdP.at {w : World} {b off c n : Nat} {hs : List (Value × Value)} {l : Tbl} (h : RdP w (.slice (some ⟨b, off, none⟩) n c) hs l) {i : Nat} (hi : i < l.length) :
    ∃ kv vv, hs[i]? = some (kv, vv) ∧ w.cell? ⟨b, off + i * 2, none⟩ = some kv ∧ w.cell? ⟨b, off + i * 2 + 1, none⟩ = some vv ∧ Bs 5 w kv l[i].1 ∧ Bs 5 w vv l[i].2 := by
  obtain ⟨hsl, hrel⟩ := h
  obtain ⟨⟨kv, vv⟩, he, h1, h2⟩ := hrel.get i l[i] (by simp [hi])
  obtain ⟨g1, g2⟩ := cells2_get hs i _ he
  obtain ⟨b', off', c', hp, hrow⟩ := hsl.at (by omega)
  injection hp with hp _ _
  injection hp with hp
  injection hp with q1 q2
  subst q1; subst q2
  rw [Nat.mul_comm] at g1 g2
  exact ⟨kv, vv, he, hrow.cell g1, hrow.cell g2, h1, h2⟩

/-- the first place, if there is one, whose key was changed -/
def ixOf (f : Bytes → Bool) : Tbl → Nat → Int
  | [], _ => -1
  | p :: l, i => if f p.1 then (i : Int) else ixOf f l (i + 1)

theorem pairs_IndexFunc {w : World} {V : VW} {ch : List (Bytes × Value)} {chx : List (Bytes × Option Bytes)} {bx : Nat} {v : Value} {hs : List (Value × Value)} {l : Tbl}
    (hbx : w.cell? ⟨bx, 0, none⟩ = some (.pointer (some ⟨V.s, 0, none⟩))) (c0 : w.cell? ⟨V.s, 0, none⟩ = some (.map (some V.c))) (hc : MapIs strEnc w V.c ch) (ec : Ents (ShapeV w) ch chx) (hv : RdP w v hs l) :
    Calls Tryz.prog 103 #[v, .func (.func 85) #[] #[.pointer (some ⟨bx, 0, none⟩)]] w fun e w' => ∃ i : Int, e = .returned (.int .i64 i) ∧ Ext [] w w' ∧
      ((i = -1 ∧ ∀ p ∈ l, (alook ch p.1).isSome = false) ∨ ∃ n : Nat, i = n ∧ ∃ hn : n < l.length, (alook ch l[n].1).isSome = true ∧ ∀ j (hj : j < n), (alook ch (l[j]'(Nat.lt_trans hj hn)).1).isSome = false) := by
  obtain ⟨p, c, rfl, hc1, hc2⟩ := hv.1.shape
  go_enter Tryz.func103, Tryz.ntmps103
  go_wp2_with fail
  go_loopw [8] (fun s wr => ∃ i : Nat, i ≤ l.length ∧ s = .int .i64 i ∧ (∀ j (hj : j < i) (hl : j < l.length), (alook ch l[j].1).isSome = false) ∧ Ext [] w wr) (fun s _ => l.length - (intOf s).toNat)
  case atStart => exact ⟨0, Nat.zero_le _, rfl, by simp, Ext.refl _ _⟩
  case round =>
    obtain ⟨i, hi, rfl, hall, hx⟩ := hrel
    by_cases hlt : i < l.length
    · have hv2 := hv.then hx
      obtain ⟨b, off, c', hpp, _⟩ := hv.1.at (by omega)
      injection hpp with hpp _ hc'
      subst hpp; subst hc'
      obtain ⟨kv, vv, _, g1, g2, hk, hvv⟩ := hv2.at hlt
      obtain ⟨kp, kc, rfl, _, _⟩ := hk.shape
      obtain ⟨vp, vc, rfl, _, _⟩ := hvv.shape
      have hS := scan_1 (hx.cell (by simp) hbx) (hx.cell (by simp) c0) (hc.ext hx (by simp)) (ec.imp fun _ _ q => q.ext hx (by simp)) hk hvv
      have HA := Lib.hid hall
      clear hall hv2 hk hvv
      cases hq : (alook ch l[i].1).isSome with
      | true =>
        rw [hq] at hS
        have HQ := Lib.hid hq
        clear hq
        iterate 60 (first | at_builtin | go_step | skip)
        go_at_call 85
        refine hS.mono ?_
        rintro e w2 ⟨rfl, x2⟩
        go_wp2_with fail
        go_ret
        exact ⟨_, rfl, hx.then x2, .inr ⟨i, rfl, hlt, HQ.out, fun j hj => HA.out j hj _⟩⟩
      | false =>
        rw [hq] at hS
        have HQ := Lib.hid hq
        clear hq
        iterate 60 (first | at_builtin | go_step | skip)
        go_at_call 85
        refine hS.mono ?_
        rintro e w2 ⟨rfl, x2⟩
        go_wp2_with fail
        go_roundw
        case rel =>
          refine ⟨i + 1, by omega, by go_num, fun j hj hl => ?_, hx.then x2⟩
          rcases Nat.lt_succ_iff_lt_or_eq.1 hj with hj | rfl
          · exact HA.out j hj hl
          · exact HQ.out
        case measure => simp [intOf]; omega
    · have e : i = l.length := by omega
      subst e
      have HA := Lib.hid hall
      clear hall
      go_wp2_with fail
      go_ret
      refine ⟨_, rfl, hx, .inl ⟨rfl, fun p hp => ?_⟩⟩
      obtain ⟨j, hj, rfl⟩ := List.mem_iff_getElem.1 hp
      exact HA.out j hj hj
end Go.Proofs.YtbbfgbkbdhghbaaGreatDoor

set_option linter.unusedVariables false
set_option linter.unusedSimpArgs false
namespace Go.Proofs.YtbbfgbkbdhghbaaGreatDoor
open Go.RowKit

theorem setCell_at {w : World} {g off : Nat} {cur : Array Value} {T : TypeId} {fr : Nat × Nat} (h : w.heap[g]? = some (.cells cur T fr)) (u : Value) :
    (w.setCell ⟨g, off, none⟩ u).heap[g]? = some (.cells (cur.setIfInBounds off u) T fr) := by
  obtain ⟨hl, he⟩ := Array.getElem?_eq_some_iff.1 h
  have hs : g < (w.setCell ⟨g, off, none⟩ u).heap.size := by simp [World.setCell, hl]
  rw [Array.getElem?_eq_getElem hs]
  simp only [World.setCell]
  rw [Array.getElem_modify_self, he]
  rfl

/-- a run of cells of one block is written -/
theorem setCells_at {g : Nat} {T : TypeId} {fr : Nat × Nat} : ∀ (vs : List Value) (o : Nat) (w : World) (cur : Array Value), w.heap[g]? = some (.cells cur T fr) →
    ∃ cur', (w.setCells g o vs).heap[g]? = some (.cells cur' T fr) ∧ cur'.size = cur.size ∧ (∀ j, j < o → cur'[j]? = cur[j]?) ∧ Ext [g] w (w.setCells g o vs)
  | [], o, w, cur, h => ⟨cur, h, rfl, fun _ _ => rfl, Ext.refl _ _⟩
  | v :: r, o, w, cur, h => by
    obtain ⟨cur', h1, h2, h3, h4⟩ := setCells_at r (o + 1) (w.setCell ⟨g, o, none⟩ v) _ (setCell_at h v)
    refine ⟨cur', h1, by simpa using h2, fun j hj => ?_, ((Ext.refl [g] w).setCell (fun _ => by simp) v).same h4⟩
    rw [h3 j (by omega), Array.getElem?_setIfInBounds]
    have : ¬ o = j := by omega
    simp [this]

theorem cells2_set (hs : List (Value × Value)) : ∀ (i : Nat) (k v : Value), ((cells2 hs).set (i * 2) k).set (i * 2 + 1) v = cells2 (hs.set i (k, v)) := by
  induction hs with
  | nil => intro i k v; simp [cells2]
  | cons a hs ih =>
    intro i k v
    cases i with
    | zero => simp [cells2]
    | succ i =>
      have := ih i k v
      have e : (i + 1) * 2 = i * 2 + 1 + 1 := by omega
      simp only [cells2, List.flatMap_cons, e, List.cons_append, List.nil_append, List.set_cons_succ] at this ⊢
      rw [this]

/-- two cells of a row that one owns are written -/
theorem own_set2 {w : World} {base T g n cap : Nat} {hs : List (Value × Value)} (h : w.ownsRow base T 2 (.slice (some ⟨g, 0, none⟩) n cap) n (cells2 hs)) {i : Nat} (hi : i < n) (k v : Value) :
    ((w.setCell ⟨g, i * 2, none⟩ k).setCell ⟨g, i * 2 + 1, none⟩ v).ownsRow base T 2 (.slice (some ⟨g, 0, none⟩) n cap) n (cells2 (hs.set i (k, v))) := by
  obtain ⟨hl, ⟨h0, _⟩ | ⟨g', cap', cur, hv, hb, hg, h1, h2, h3, h4⟩⟩ := h
  · cases h0
  · cases hv
    refine ⟨by rw [cells2_length] at hl ⊢; simpa using hl, .inr ⟨g, cap, _, rfl, hb, setCell_at (setCell_at hg k) v, h1, h2, by simpa using h3, ?_⟩⟩
    rw [← cells2_set, ← h4]
    simp only [Array.toList_setIfInBounds, List.take_set]

theorem own_cells {w : World} {base T g n cap : Nat} {xs : List Value} {k : Nat} (h : w.ownsRow base T k (.slice (some ⟨g, 0, none⟩) n cap) n xs) :
    ∃ cur, w.heap[g]? = some (.cells cur T (0, 0)) ∧ cur.size = cap * k ∧ cur.toList.take (n * k) = xs ∧ n ≤ cap ∧ base ≤ g ∧ cap ≤ maxLen := by
  obtain ⟨hl, ⟨h0, _⟩ | ⟨g', cap', cur, hv, hb, hg, h1, h2, h3, h4⟩⟩ := h
  · cases h0
  · cases hv
    exact ⟨cur, hg, h3, h4, h1, hb, h2⟩

theorem zero_pair (w : World) : (zeroValue 95).run Tryz.prog w = .ok (.agg #[.slice none 0 0, .slice none 0 0]) w := by kernel_rfl

/-- clear(s[i:]) of a row that one owns: what is ahead of i stays -/
theorem run_clear_rest {w : World} {base g n cap : Nat} {xs : List Value} (h : w.ownsRow base 95 2 (.slice (some ⟨g, 0, none⟩) n cap) n xs) {i : Nat} (hi : i ≤ n) (c : Nat) :
    ∃ w', (Builtin.clear_ #[51] 0 #[.slice (some ⟨g, i * 2, none⟩) (n - i) c]).run Tryz.prog w = .ok (.tuple #[]) w' ∧ w'.ownsRow base 95 2 (.slice (some ⟨g, 0, none⟩) i cap) i (xs.take (i * 2)) ∧ Ext [g] w w' := by
  obtain ⟨cur, hg, hcs, htake, hnc, hb, hcm⟩ := own_cells h
  have fin : ∀ (w' : World) (cur' : Array Value), w'.heap[g]? = some (.cells cur' 95 (0, 0)) → cur'.size = cur.size → (∀ j, j < i * 2 → cur'[j]? = cur[j]?) → w'.ownsRow base 95 2 (.slice (some ⟨g, 0, none⟩) i cap) i (xs.take (i * 2)) := by
    intro w' cur' h1 h2 h3
    have hx : xs.take (i * 2) = cur.toList.take (i * 2) := by rw [← htake, List.take_take]; congr 1; omega
    refine ⟨?_, .inr ⟨g, cap, cur', rfl, hb, h1, by omega, hcm, by omega, ?_⟩⟩
    · rw [hx]; simp; omega
    · rw [hx]
      apply List.ext_getElem?
      intro j
      by_cases hj : j < i * 2
      · rw [List.getElem?_take_of_lt hj, List.getElem?_take_of_lt hj, Array.getElem?_toList, Array.getElem?_toList, h3 j hj]
      · rw [List.getElem?_take_eq_none (by omega), List.getElem?_take_eq_none (by omega)]
  rcases Nat.eq_zero_or_pos (n - i) with h0 | hpos
  · refine ⟨w, ?_, fin w cur hg rfl (fun _ _ => rfl), Ext.refl _ _⟩
    rw [h0]
    simp [Builtin.clear_, run_underlying Tryz.underlying51]
  · have hst := run_storeCells_cells (P := Tryz.prog) g (i * 2) (Builtin.zeroCells #[.slice none 0 0, .slice none 0 0] (n - i)).toList 0 w ?_ ?_ ?_
    · obtain ⟨cur', h1, h2, h3, h4⟩ := setCells_at (Builtin.zeroCells #[.slice none 0 0, .slice none 0 0] (n - i)).toList (i * 2 + 0) w cur hg
      refine ⟨_, ?_, fin _ cur' h1 h2 h3, h4⟩
      obtain ⟨m, hm⟩ : ∃ m, n - i = m + 1 := ⟨n - i - 1, by omega⟩
      rw [hm] at hst ⊢
      simp [Builtin.clear_, run_underlying Tryz.underlying51, zero_pair, Value.cells, hst, Result.andThen]
    · intro j hj
      have hj2 : j < (n - i) * 2 := by simpa [Builtin.zeroCells] using hj
      have : i * 2 + 0 + j < cur.size := by omega
      simp [World.cell?, hg]
      omega
    · intro j hj
      simp [World.frozen?, hg]
    · intro v hv
      simp only [Builtin.zeroCells, Array.toList_map, List.mem_map] at hv
      obtain ⟨j, _, rfl⟩ := hv
      have : j % 2 = 0 ∨ j % 2 = 1 := by omega
      rcases this with h | h <;> simp [h, Value.oneCell']
end Go.Proofs.YtbbfgbkbdhghbaaGreatDoor
