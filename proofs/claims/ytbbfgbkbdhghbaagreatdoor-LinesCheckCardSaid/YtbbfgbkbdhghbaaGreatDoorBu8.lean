/-
  The document's numbers as bytes: Put and Get.
  The document's keys: Key, Split, Of.
  The document's chart: Name, Fund, Funds, Object, NewFund.
  Funds have the same by lines in another order: a plain law.
  A line put among funds: a plain law.
  append to what one owns, as one step of a region that draws its order: a plain law.
-/
import Derived.Test.YtbbfgbkbdhghbaaGreatDoorBu2
import Derived.Test.YtbbfgbkbdhghbaaGreatDoorBu1
import Derived.Test.YtbbfgbkbdhghbaaGreatDoorBu6
import Derived.Test.YtbbfgbkbdhghbaaGreatDoorBu7
import Derived.Test.YtbbfgbkbdhghbaaGreatDoorBu0
import Derived.Deep.RegionLaw
set_option linter.unusedVariables false
set_option linter.unusedSimpArgs false
namespace Go.Proofs.YtbbfgbkbdhghbaaGreatDoor
open Go.RowKit
variable {U : TypeId} {w : World}

theorem r01_sized (n : Int) (hs : n = 4 ∨ n = 8) (w : World) : Calls Tryz.prog 94 #[.int .i64 n] w fun e w' => e = .returned (.bool true) ∧ w = w' := by
  rcases hs with rfl | rfl
  all_goals
    go_enter Tryz.func94, Tryz.ntmps94
    go_wp2_with fail
    go_ret
    exact ⟨rfl, rfl⟩

theorem r01_pow (w : World) : Calls Tryz.prog 95 #[.int .i64 4] w fun e w' => e = .returned (.int .i64 4294967296) ∧ w = w' := by
  go_enter Tryz.func95, Tryz.ntmps95
  go_wp2_with fail
  go_loopw [3, 4] (fun n s wr => (n = .int .i64 1 ∧ s = .int .i64 0 ∨ n = .int .i64 256 ∧ s = .int .i64 1 ∨ n = .int .i64 65536 ∧ s = .int .i64 2 ∨ n = .int .i64 16777216 ∧ s = .int .i64 3 ∨ n = .int .i64 4294967296 ∧ s = .int .i64 4) ∧ wr = w) (fun _ s _ => 4 - (intOf s).toNat)
  case atStart => exact ⟨.inl ⟨rfl, rfl⟩, rfl⟩
  case round =>
    obtain ⟨h, rfl⟩ := hrel
    rcases h with ⟨rfl, rfl⟩ | ⟨rfl, rfl⟩ | ⟨rfl, rfl⟩ | ⟨rfl, rfl⟩ | ⟨rfl, rfl⟩
    · go_wp2_with fail
      exact ⟨⟨by simp, trivial⟩, by simp [intOf]⟩
    · go_wp2_with fail
      exact ⟨⟨by simp, trivial⟩, by simp [intOf]⟩
    · go_wp2_with fail
      exact ⟨⟨by simp, trivial⟩, by simp [intOf]⟩
    · go_wp2_with fail
      exact ⟨⟨by simp, trivial⟩, by simp [intOf]⟩
    · go_wp2_with fail
      go_ret
      exact ⟨rfl, rfl⟩

theorem r01_Right (n size : Int) (w : World) (hs : size = 4 ∨ size = 8) (hn : I64 n) :
    Calls Tryz.prog 70 #[.int .i64 n, .int .i64 size] w fun e w' => e = .returned (.bool (fits n size)) ∧ w = w' := by
  obtain ⟨hn0, hn1⟩ := hn
  rcases hs with rfl | rfl
  · by_cases h0 : 0 ≤ n
    · go_enter Tryz.func70, Tryz.ntmps70
      go_wp2_with (first
        | (go_at_call 94; refine (r01_sized _ (.inl rfl) _).mono ?_; rintro e w' ⟨rfl, rfl⟩)
        | (go_at_call 95; refine (r01_pow _).mono ?_; rintro e w' ⟨rfl, rfl⟩))
      go_ret
      exact ⟨ret_bool (by simp [fits, h0]), rfl⟩
    · go_enter Tryz.func70, Tryz.ntmps70
      go_wp2_with (first
        | (go_at_call 94; refine (r01_sized _ (.inl rfl) _).mono ?_; rintro e w' ⟨rfl, rfl⟩)
        | (go_at_call 95; refine (r01_pow _).mono ?_; rintro e w' ⟨rfl, rfl⟩))
      go_ret
      exact ⟨ret_bool (by simp [fits]; omega), rfl⟩
  · go_enter Tryz.func70, Tryz.ntmps70
    go_wp2_with fail
    go_ret
    exact ⟨ret_bool (by simp [fits]), rfl⟩

theorem r01_Put (b : Value) (l : Bytes) (n : Int) (k : Nat) (w : World) (hb : Bs U w b l) (hl : l.length ≤ 4294967296) (hk : k = 4 ∨ k = 8) (hn : I64 n) :
    Calls Tryz.prog 56 #[b, .int .i64 n, .int .i64 k] w fun e w' => ∃ v, e = .returned v ∧ NewB w w' v (numPut l n k) ∧ Ext [] w w' := by
  obtain ⟨p, c, rfl, hc1, hc2⟩ := hb.shape
  have hbl : (l.map bv).length = l.length * 1 := by simp
  have hbo := bv_one l
  have hR := fun W => r01_Right n k W (by omega) hn
  go_enter Tryz.func56, Tryz.ntmps56
  iterate 40 (first | at_builtin | go_step | skip)
  with_reducible refine app0 (base := w.heap.size) Tryz.underlying63 row_u8 (by decide) hb.sl hbl hbo (by omega) (by omega) ?_ ?_ ?_
  omega
  rfl
  intro v1 w1 ho x1 hat
  have ho1 : NewB w w1 v1 l := by simpa [NewB] using ho
  cases hf : fits n k with
  | false =>
    rw [hf] at hR
    have HE := Lib.hid (show numPut l n k = l by simp [numPut, hf])
    go_wp2_with (go_at_call 70; refine (hR _).mono ?_; rintro e w' ⟨rfl, rfl⟩)
    go_ret
    rw [HE.out]
    exact ⟨_, rfl, ho1, x1⟩
  | true =>
    rw [hf] at hR
    have HE := Lib.hid (show numPut l n k = l ++ be n k by simp [numPut, hf])
    clear hf ho hat
    go_wp2_with (go_at_call 70; refine (hR _).mono ?_; rintro e w' ⟨rfl, rfl⟩)
    go_loopw [7, 8] (fun v s wr => ∃ i : Nat, i ≤ k ∧ s = .int .i64 ((k : Int) - 1 - i) ∧ NewB w wr v (l ++ (be n k).take i) ∧ Ext [] w wr) (fun _ s _ => (intOf s + 1).toNat)
    case atStart => exact ⟨0, Nat.zero_le _, by simp, by simpa using ho1, x1⟩
    case round =>
      obtain ⟨i, hi, rfl, hown, hx⟩ := hrel
      have hB := hx.size
      by_cases hlt : i < k
      · obtain ⟨j, hj⟩ : ∃ j : Nat, j + i + 1 = k := ⟨k - 1 - i, by omega⟩
        have hkj : k - 1 - i = j := by omega
        have he := be_take n k i hlt
        rw [hkj] at he
        have hs : (k : Int) - 1 - i = (j : Int) := by omega
        rw [hs]
        obtain ⟨C, hBe⟩ : ∃ C : UInt8, C = UInt8.ofNat ((n / 256 ^ j) % 256).toNat := ⟨_, rfl⟩
        have hby : n / 2 ^ (8 * j) % 256 = (C.toNat : Int) := by
          have q := bv_mod (n / 256 ^ j)
          rw [← hBe, bv] at q
          injection q with _ q
          rw [q, Int.pow_mul]
          rfl
        rw [← hBe] at he
        have HA := Lib.hid he
        have HJ := Lib.hid hj
        have hj7 : j ≤ 7 := by omega
        have hlen : (l ++ (be n k).take i).length ≤ 4294967304 := by simp [be_length]; omega
        clear he hBe hs hkj hj hbl hb hbo
        iterate 80 (first | at_builtin | go_step | skip)
        with_reducible refine app1 (k := 1) Tryz.underlying63 row_u8 (by decide) hown.own ?_ ?_ ?_ ?_ ?_ ?_ ?_ ?_
        rfl
        exact bv_one [C]
        omega
        omega
        omega
        rfl
        rfl
        intro v2 w2 ho1 hx1 hat
        go_wp2_with fail
        go_roundw
        case rel =>
          refine ⟨i + 1, by omega, ?_, ?_, (hx.trans hx1 ?_)⟩
          · have := HJ.out; congr 1; omega
          · rw [HA.out, ← List.append_assoc]
            exact NewB.snoc ho1
          · intro b hb hlt'
            have := own_fresh hown b (by simpa using hb)
            omega
        case measure => simp [intOf]
      · have e : i = k := by omega
        subst e
        have hf2 : decide ((0 : Int) ≤ (i : Int) - 1 - i) = false := by simp; omega
        go_wp2_with fail
        go_ret
        rw [HE.out]
        have e3 : (be n i).take i = be n i := List.take_of_length_le (by simp [be_length])
        rw [e3] at hown
        exact ⟨_, rfl, hown, hx⟩

theorem r01_Put4 (b : Value) (l : Bytes) (n : Int) (w : World) (hb : Bs U w b l) (hl : l.length ≤ 4294967296) (hn : 0 ≤ n ∧ n ≤ 4294967295) :
    Calls Tryz.prog 56 #[b, .int .i64 n, .int .i64 4] w fun e w' => ∃ v, e = .returned v ∧ NewB w w' v (l ++ be n 4) ∧ Ext [] w w' := by
  have h := r01_Put b l n 4 w hb hl (by simp) (by unfold I64; omega)
  have e : numPut l n 4 = l ++ be n 4 := by
    have h : fits n (4 : Nat) = true := by simp [fits]; omega
    unfold numPut; rw [if_pos h]
  rw [e] at h
  exact h

/-! ### Get -/
theorem ofInt_wrap64 (y : Int) : BitVec.ofInt 64 (wrap64 y) = BitVec.ofInt 64 y := by
  apply BitVec.eq_of_toInt_eq
  rw [BitVec.toInt_ofInt, BitVec.toInt_ofInt]
  unfold wrap64
  simp only [Int.bmod]
  omega
theorem i64_step (m : Int) (x : UInt8) : bits .or .i64 (wrap64 (m * 256)) (x.toNat : Int) = wrap64 (m * 256 + x.toNat) := by
  have hx := x.toNat_lt
  show IntKind.i64.wrap ((BitVec.ofInt 64 (wrap64 (m * 256)) ||| BitVec.ofInt 64 (x.toNat : Int)).toNat : Int) = _
  rw [ofInt_wrap64, BitVec.toNat_or, ofInt_u64 x.toNat (by omega)]
  obtain ⟨q, hq⟩ : ∃ q : Nat, (BitVec.ofInt 64 (m * 256)).toNat = q * 256 := by
    refine ⟨(BitVec.ofInt 64 (m * 256)).toNat / 256, ?_⟩
    rw [BitVec.toNat_ofInt]
    omega
  have e : (q * 256) ||| x.toNat = q * 256 + x.toNat := by
    have := Nat.shiftLeft_add_eq_or_of_lt (i := 8) (b := x.toNat) x.toNat_lt q
    rw [Nat.shiftLeft_eq] at this
    simpa using this.symm
  rw [hq, e]
  rw [BitVec.toNat_ofInt] at hq
  rw [IntKind.wrap_i64]
  unfold wrap64
  omega

theorem r01_Get {b : Value} {l : Bytes} (at_ size : Nat) (hb : Bs U w b l) (hs : size = 4 ∨ size = 8) (ha : at_ + size ≤ l.length) :
    Calls Tryz.prog 108 #[b, .int .i64 at_, .int .i64 size] w fun e w' => e = .returned (.tuple #[.int .i64 (wrap64 (ofBe ((l.drop at_).take size))), .int .i64 0]) ∧ w = w' := by
  obtain ⟨b0, off, c, rfl, hrow⟩ := hb.sl.at (by omega)
  have hc : l.length ≤ c ∧ c ≤ 9223372036854775807 := by obtain ⟨p, c1, e, q1, q2⟩ := hb.shape; injection e with _ _ e; subst e; exact ⟨q1, q2⟩
  obtain ⟨hc1, hc2⟩ := hc
  have h1 : ¬ ((at_ : Int) < 0) := by omega
  have h3 : ¬ ((l.length : Int) - (size : Int) < (at_ : Int)) := by omega
  have hN := fun W => r01_sized (size : Int) (by omega) W
  go_enter Tryz.func108, Tryz.ntmps108
  go_wp2_with (go_at_call 94; refine (hN _).mono ?_; rintro e w' ⟨rfl, rfl⟩)
  go_loopw [8, 9] (fun n x wr => ∃ i : Nat, i ≤ size ∧ x = .int .i64 i ∧ n = .int .i64 (wrap64 (ofBe ((l.drop at_).take i))) ∧ wr = w) (fun _ x _ => size - (intOf x).toNat)
  case atStart => exact ⟨0, Nat.zero_le _, rfl, by simp [ofBe, wrap64], rfl⟩
  case round =>
    obtain ⟨i, hi, rfl, rfl, rfl⟩ := hrel
    by_cases hlt : i < size
    · have hd : i < (l.drop at_).length := by rw [List.length_drop]; omega
      have hcell := hrow.cell (i := at_ + i) (v := .int .u8 (((l.drop at_)[i]).toNat : Int)) (by rw [List.getElem?_map, List.getElem_drop, List.getElem?_eq_getElem (by omega)]; rfl)
      have hcell2 := hcell
      rw [← Nat.add_assoc] at hcell2
      have HE := Lib.hid (ofBe_take _ i hd)
      generalize (l.drop at_)[i] = x at *
      have HW := Lib.hid (show wrap64 (wrap64 (ofBe ((l.drop at_).take i)) * 256) = wrap64 (ofBe ((l.drop at_).take i) * 256) by unfold wrap64; omega)
      have hx := x.toNat_lt
      have hb1 : at_ + i < l.length := by omega
      go_wp2_with fail
      refine ⟨⟨i + 1, by omega, by go_num, ?_, trivial⟩, by simp [intOf]; omega⟩
      rw [HE.out]
      first
        | (rw [HW.out, i64_step]; done)
        | (rw [i64_step]; done)
    · have e : i = size := by omega
      subst e
      go_wp2_with fail
      go_ret2
      exact ⟨rfl, rfl⟩
end Go.Proofs.YtbbfgbkbdhghbaaGreatDoor

set_option linter.unusedVariables false
set_option linter.unusedSimpArgs false
namespace Go.Proofs.YtbbfgbkbdhghbaaGreatDoor
open Go.RowKit
variable {U : TypeId} {w : World}

theorem r18_Key (tag : UInt8) (v : Value) (xs : List Int) (w : World) (hv : Sl w U v xs.length (xs.map iv)) (h7 : xs.length ≤ 7) :
    Calls Tryz.prog 34 #[.int .u8 (tag.toNat : Int), v] w fun e w' => ∃ r, e = .returned r ∧ NewB w w' r (key tag xs) ∧ Ext [] w w' := by
  obtain ⟨p, c, rfl, hc1, hc2⟩ := hv.shape
  have x0 := (Ext.refl [] w).alloc (.cells #[.int .u8 (tag.toNat : Int)] 5)
  have h0 := own_lit w.heap.size 5 1 #[.int .u8 (tag.toNat : Int)] 1 rfl w (Nat.le_refl _) (by decide)
  have h7' : (xs.length : Int) ≤ 7 := by omega
  go_enter Tryz.func34, Tryz.ntmps34
  go_wp2_with fail
  go_loopw [5, 6] (fun o s wr => ∃ i : Nat, i ≤ xs.length ∧ s = .int .i64 i ∧ NewB w wr o (tag :: (xs.take i).flatMap (fun n => be (clamp n) 4)) ∧ Ext [] w wr) (fun _ s _ => xs.length - (intOf s).toNat)
  case atStart => exact ⟨0, Nat.zero_le _, rfl, by simpa [NewB, bv] using h0, x0⟩
  case round =>
    obtain ⟨i, hi, rfl, hown, hx⟩ := hrel
    by_cases hlt : i < xs.length
    · obtain ⟨b, off, c', hp, hrow⟩ := hv.at (by omega)
      injection hp with hp _ hc'
      subst hp; subst hc'
      have hcell := (hrow.ext hx (by simp)).cell (i := i) (v := .int .i64 xs[i]) (by simp [hlt, iv])
      have hlen : (tag :: (xs.take i).flatMap (fun n => be (clamp n) 4)).length ≤ 4294967296 := by
        have e : (tag :: (xs.take i).flatMap (fun n => be (clamp n) 4)) = key tag (xs.take i) := by
          rw [key, List.take_of_length_le (i := 7)]; simp; omega
        rw [e, key_length]; omega
      have HF := Lib.hid (show (xs.take (i + 1)).flatMap (fun n => be (clamp n) 4) = (xs.take i).flatMap (fun n => be (clamp n) 4) ++ be (clamp xs[i]) 4 by
        rw [List.take_succ_eq_append_getElem hlt, List.flatMap_append]; simp)
      have hsz := hx.size
      have h7i : (i : Int) < 7 := by omega
      go_wp2_with (go_at_call 56; refine (r01_Put4 _ _ _ _ hown.bs hlen (by omega)).mono ?_; rintro e w' ⟨v, rfl, hn, hx2⟩)
      all_goals
        go_roundw
        case rel =>
          refine ⟨i + 1, by omega, by go_num, ?_, hx.then hx2⟩
          rw [HF.out]
          first | rw [clamp_ite] at hn | rw [show min (max xs[i] 0) 4294967295 = clamp xs[i] from rfl] at hn
          exact hn.later hsz
        case measure => simp [intOf]; omega
    · have e : i = xs.length := by omega
      subst e
      go_wp2_with fail
      go_ret
      refine ⟨_, rfl, ?_, hx⟩
      rw [List.take_length] at hown
      rw [key, List.take_of_length_le (by omega)]
      exact hown

theorem r18_Split_no {v : Value} {k : Bytes} (hk : Bs U w v k) (hs : splitK k = none) :
    Calls Tryz.prog 93 #[v] w fun e w' => e = .returned (.tuple #[.int .u8 0, .slice none 0 0, .bool false]) ∧ w = w' := by
  obtain ⟨p, c, rfl, hc1, hc2⟩ := hk.shape
  have hs' : k.length < 1 ∨ 1 ≤ k.length ∧ 29 < k.length ∨ 1 ≤ k.length ∧ k.length ≤ 29 ∧ ¬ k.length % 4 = 1 := by
    cases k with
    | nil => simp
    | cons t r =>
      simp only [splitK] at hs
      split at hs
      · simp at hs
      · simp only [List.length_cons]; omega
  rcases hs' with h1 | ⟨h1, h2⟩ | ⟨h1, h2, h3⟩
  · have q1 : (k.length : Int) < 1 := by omega
    go_enter Tryz.func93, Tryz.ntmps93
    go_wp2_with fail
    go_ret3
    exact ⟨rfl, rfl⟩
  · have q1 : ¬ (k.length : Int) < 1 := by omega
    have q2 : (29 : Int) < (k.length : Int) := by omega
    go_enter Tryz.func93, Tryz.ntmps93
    go_wp2_with fail
    go_ret3
    exact ⟨rfl, rfl⟩
  · have q1 : ¬ (k.length : Int) < 1 := by omega
    have q2 : ¬ (29 : Int) < (k.length : Int) := by omega
    have q3 : (((k.length : Int) % 4) != 1) = true := by rw [bne_iff_ne]; omega
    go_enter Tryz.func93, Tryz.ntmps93
    go_wp2_with fail
    go_ret3
    exact ⟨rfl, rfl⟩

theorem r18_Split {v : Value} {k : Bytes} {t : UInt8} {l : List Int} (hk : Bs U w v k) (hs : splitK k = some (t, l)) :
    Calls Tryz.prog 93 #[v] w fun e w' => ∃ r, e = .returned (.tuple #[.int .u8 (t.toNat : Int), r, .bool true]) ∧ NewI w w' r l ∧ Ext [] w w' := by
  cases k with
  | nil => simp [splitK] at hs
  | cons t' rest =>
    obtain ⟨b, off, c, rfl, hrow⟩ := hk.sl.at (by simp)
    have hc : rest.length + 1 ≤ c ∧ c ≤ 9223372036854775807 := by obtain ⟨p, c1, e, q1, q2⟩ := hk.shape; injection e with _ _ e; subst e; exact ⟨q1, q2⟩
    obtain ⟨hc1, hc2⟩ := hc
    simp only [splitK] at hs
    split at hs
    · rename_i hl
      obtain ⟨hl1, hl2⟩ := hl
      simp only [Option.some.injEq, Prod.mk.injEq] at hs
      obtain ⟨rfl, rfl⟩ := hs
      have q1 : ((((rest.length : Int) + 1) % 4) != 1) = false := by rw [bne_eq_false_iff_eq]; omega
      have q2 : ¬ (29 : Int) < (rest.length : Int) + 1 := by omega
      have q0 : ¬ (rest.length : Int) + 1 < 1 := by omega
      have hcell := hrow.cell (i := 0) (v := .int .u8 (t'.toNat : Int)) rfl
      rw [Nat.add_zero] at hcell
      go_enter Tryz.func93, Tryz.ntmps93
      go_wp2_with fail
      go_loopw [5, 6] (fun o x wr => ∃ i : Nat, 4 * i ≤ rest.length ∧ x = .int .i64 (1 + 4 * (i : Int)) ∧ NewI w wr o ((List.range i).map fun i => ofBe ((rest.drop (4 * i)).take 4)) ∧ Ext [] w wr) (fun _ x _ => rest.length + 1 - (intOf x).toNat)
      case atStart => exact ⟨0, Nat.zero_le _, rfl, own_nil _ _ _ _, Ext.refl _ _⟩
      case round =>
        obtain ⟨i, hi, rfl, ho, hx⟩ := hrel
        by_cases hlt : 4 * i < rest.length
        · have h44 : 4 * i + 4 ≤ rest.length := by omega
          have hG := r01_Get (1 + 4 * i) 4 (hk.then hx) (.inl rfl) (by simp; omega)
          have HF := Lib.hid (nums4_take rest i)
          have hbd := ofBe_bdk (rest.drop (4 * i)) 4 (by rw [List.length_drop]; omega)
          obtain ⟨hb0, hb1⟩ := hbd
          have HW := Lib.hid (show wrap64 (ofBe (((t' :: rest).drop (1 + 4 * i)).take 4)) = ofBe ((rest.drop (4 * i)).take 4) by
            rw [Nat.add_comm 1, List.drop_succ_cons]; unfold wrap64; omega)
          rw [HW.out] at hG
          have hsz := hx.size
          have hlen : ((List.range i).map fun i => ofBe ((rest.drop (4 * i)).take 4)).length ≤ 28 := by simp; omega
          have eA : ((1 + 4 * i : Nat) : Int) = 1 + 4 * (i : Int) := by omega
          rw [eA] at hG
          clear hk hrow hcell HW eA
          generalize hnn : ofBe ((rest.drop (4 * i)).take 4) = nn at *
          clear hnn
          have e1 : (1 : Int) + 4 * (i : Int) < (rest.length : Int) + 1 := by omega
          iterate 40 (first | at_builtin | go_step | skip)
          go_at_call 108
          refine hG.mono ?_
          rintro e w1 ⟨rfl, rfl⟩
          dsimp only
          iterate 60 (first | at_builtin | go_step | skip)
          with_reducible refine app1 (k := 1) Tryz.underlying22 row_int (by decide) ho.own ?_ ?_ ?_ ?_ ?_ ?_ ?_ ?_
          rfl
          exact iv_one [nn]
          omega
          omega
          omega
          rfl
          rfl
          intro v1 w2 ho1 hx1 hat
          go_wp2_with fail
          go_roundw
          case rel =>
            refine ⟨i + 1, by omega, by go_num, ?_, hx.trans hx1 (fun b hb hlt' => by have := own_fresh ho b (by simpa using hb); omega)⟩
            rw [HF.out]
            exact NewI.snoc ho1
          case measure => simp [intOf]; omega
        · have eI : rest.length / 4 = i := by omega
          have hcell2 := hx.cell (by simp) hcell
          have q3 : ¬ (1 + 4 * (i : Int) < (rest.length : Int) + 1) := by omega
          go_wp2_with fail
          go_ret3
          exact ⟨_, rfl, by rw [nums4, eI]; exact ho, hx⟩
    · simp at hs

def ofK (k : Bytes) (tag : UInt8) (many : Nat) : Option (List Int) := match splitK k with
  | some (t, l) => if t = tag ∧ l.length = many then some l else none
  | none => none
theorem ret_tb {a b : Bool} {v : Value} (h : a = b) : Ending.returned (.tuple #[v, .bool a]) = .returned (.tuple #[v, .bool b]) := by rw [h]

theorem r18_Of_no {v : Value} {k : Bytes} {tag : UInt8} {many : Nat} (hk : Bs U w v k) (hs : ofK k tag many = none) :
    Calls Tryz.prog 69 #[v, .int .u8 (tag.toNat : Int), .int .i64 many] w fun e w' => e = .returned (.tuple #[.slice none 0 0, .bool false]) ∧ Ext [] w w' := by
  cases hq : splitK k with
  | none =>
    have hS := r18_Split_no hk hq
    go_enter Tryz.func69, Tryz.ntmps69
    go_wp2_with (go_at_call 93; refine hS.mono ?_; rintro e w1 ⟨rfl, rfl⟩)
    go_ret2
    exact ⟨rfl, Ext.refl _ _⟩
  | some q =>
    obtain ⟨t, l⟩ := q
    have hS := r18_Split hk hq
    simp only [ofK, hq] at hs
    by_cases ht : t = tag
    · have hl : ¬ l.length = many := fun e => by simp [ht, e] at hs
      subst ht
      have hl' : ((l.length : Int) != (many : Int)) = true := by rw [bne_iff_ne]; omega
      clear hs hq
      go_enter Tryz.func69, Tryz.ntmps69
      go_wp2_with (go_at_call 93; refine hS.mono ?_; rintro e w1 ⟨r, rfl, hr, x⟩; obtain ⟨p, c, rfl, _, _⟩ := own_size hr)
      go_ret2
      exact ⟨rfl, x⟩
    · have ht' : ((t.toNat : Int) != (tag.toNat : Int)) = true := by
        rw [bne_iff_ne]
        intro e
        exact ht (UInt8.toNat_inj.1 (by omega))
      clear hs hq
      go_enter Tryz.func69, Tryz.ntmps69
      go_wp2_with (go_at_call 93; refine hS.mono ?_; rintro e w1 ⟨r, rfl, hr, x⟩; obtain ⟨p, c, rfl, _, _⟩ := own_size hr)
      go_ret2
      exact ⟨rfl, x⟩

theorem r18_Of {v : Value} {k : Bytes} {tag : UInt8} {many : Nat} {l : List Int} (hk : Bs U w v k) (hs : ofK k tag many = some l) :
    Calls Tryz.prog 69 #[v, .int .u8 (tag.toNat : Int), .int .i64 many] w fun e w' => ∃ r, e = .returned (.tuple #[r, .bool true]) ∧ NewI w w' r l ∧ Ext [] w w' := by
  cases hq : splitK k with
  | none => simp [ofK, hq] at hs
  | some q =>
    obtain ⟨t, l'⟩ := q
    have hS := r18_Split hk hq
    simp only [ofK, hq] at hs
    split at hs
    · rename_i hh
      obtain ⟨rfl, hl⟩ := hh
      simp only [Option.some.injEq] at hs
      subst hs
      have hl' : ((l'.length : Int) != (many : Int)) = false := by rw [bne_eq_false_iff_eq]; omega
      clear hq hl
      go_enter Tryz.func69, Tryz.ntmps69
      go_wp2_with (go_at_call 93; refine hS.mono ?_; rintro e w1 ⟨r, rfl, hr, x⟩; obtain ⟨p, c, rfl, _, _⟩ := own_size hr)
      go_ret2
      exact ⟨_, rfl, hr, x⟩
    · simp at hs
end Go.Proofs.YtbbfgbkbdhghbaaGreatDoor

set_option linter.unusedVariables false
set_option linter.unusedSimpArgs false
namespace Go.Proofs.YtbbfgbkbdhghbaaGreatDoor
open Go.RowKit
variable {w : World} {B s n : Nat} {was now : Tbl}

theorem r21_Name (l : Bytes) (w : World) (hl : l.length ≤ 1048576) :
    Calls Tryz.prog 30 #[.string (str l)] w fun e w' => e = .returned (.bool (nameOk l)) ∧ w = w' := by
  have hsz := str_size l
  go_enter Tryz.func30, Tryz.ntmps30
  go_wp2_with fail
  go_loopw [3] (fun s wr => ∃ i : Nat, i ≤ l.length ∧ s = .int .i64 i ∧ (l.take i).any badC = false ∧ wr = w) (fun s _ => l.length - (intOf s).toNat)
  case atStart => exact ⟨0, Nat.zero_le _, rfl, rfl, rfl⟩
  case round =>
    obtain ⟨i, hi, rfl, hall, rfl⟩ := hrel
    have HA := Lib.hid hall
    clear hall
    by_cases hlt : i < l.length
    · have hT := List.take_succ_eq_append_getElem hlt
      have hM : l[i] ∈ l := List.getElem_mem hlt
      have hcs : badC l[i] = true ∧ (l[i].toNat : Int) < 32 ∨ badC l[i] = true ∧ ¬ (l[i].toNat : Int) < 32 ∧ (126 : Int) < l[i].toNat ∨ badC l[i] = false ∧ ¬ (l[i].toNat : Int) < 32 ∧ ¬ (126 : Int) < l[i].toNat := by
        simp only [badC, Bool.or_eq_true, Bool.or_eq_false_iff, decide_eq_true_eq, decide_eq_false_iff_not]; omega
      rcases hcs with ⟨hq, h1⟩ | ⟨hq, h1, h2⟩ | ⟨hq, h1, h2⟩
      · have HE := Lib.hid (show nameOk l = false by simp only [nameOk, List.any_eq_true.2 ⟨_, hM, hq⟩]; simp)
        clear hq hT hM
        go_wp2_with fail
        go_ret
        exact ⟨ret_bool HE.out.symm, rfl⟩
      · have HE := Lib.hid (show nameOk l = false by simp only [nameOk, List.any_eq_true.2 ⟨_, hM, hq⟩]; simp)
        clear hq hT hM
        go_wp2_with fail
        go_ret
        exact ⟨ret_bool HE.out.symm, rfl⟩
      · have HQ := Lib.hid (show (l.take (i + 1)).any badC = false by rw [hT, List.any_append, HA.out]; simp [hq])
        clear hq hT hM
        go_wp2_with fail
        exact ⟨⟨i + 1, by omega, by go_num, HQ.out, trivial⟩, by simp [intOf]; omega⟩
    · have e : i = l.length := by omega
      subst e
      have hA := HA.out
      rw [List.take_length] at hA
      by_cases h1 : 1 ≤ l.length
      · have HE := Lib.hid (show nameOk l = decide (l.length ≤ 20) by simp only [nameOk, hA, decide_eq_true h1]; simp)
        go_wp2_with fail
        go_ret
        exact ⟨ret_bool (by rw [HE.out]; simp; omega), rfl⟩
      · have HE := Lib.hid (show nameOk l = false by simp only [nameOk, decide_eq_false h1]; simp)
        go_wp2_with fail
        go_ret
        exact ⟨ret_bool HE.out.symm, rfl⟩

theorem ofK_one {now : Tbl} {t : UInt8} {p : Bytes × Bytes} (hp : p ∈ tscan now [t]) : (oneNum p = none ∧ ofK p.1 t 1 = none) ∨ ∃ z, oneNum p = some z ∧ ofK p.1 t 1 = some [z] := by
  have hpre : [t].isPrefixOf p.1 = true := (List.mem_filter.1 hp).2
  obtain ⟨k, v⟩ := p
  simp only [oneNum, ofK] at *
  cases k with
  | nil => simp at hpre
  | cons t' rest =>
    have ht : t = t' := by simpa using hpre
    subst ht
    by_cases hc : rest.length % 4 = 0 ∧ rest.length ≤ 28
    · simp only [splitK, if_pos hc]
      rcases hn : nums4 rest with _ | ⟨z, _ | ⟨y, r⟩⟩
      · exact .inl ⟨rfl, by simp⟩
      · exact .inr ⟨z, rfl, by simp⟩
      · exact .inl ⟨rfl, by simp⟩
    · simp only [splitK, if_neg hc]
      exact .inl ⟨by simp, by simp⟩

theorem r21_all (h : IsRef B w s n was now) (hn : n ≤ 1048576) (t : UInt8) :
    Calls Tryz.prog 53 #[.pointer (some ⟨s, 0, none⟩), .int .u8 (t.toNat : Int)] w fun e w' => ∃ r, e = .returned r ∧ NewI w w' r (allNums now t) ∧ Ext [] w w' := by
  have hlit := lit_b1 w t
  have x0 := (Ext.refl [] w).alloc (.cells #[.int .u8 (t.toNat : Int)] 5)
  go_enter Tryz.func53, Tryz.ntmps53
  iterate 60 (first | at_builtin | go_step | skip)
  go_at_call 68
  refine (ref_Scan (h.then x0) (by omega) _ [t] hlit).mono ?_
  rintro e w1 ⟨r1, rfl, o1, x1⟩
  obtain ⟨hs, ho1, hrd⟩ := o1.rd
  obtain ⟨p, c, rfl, g1, g2⟩ := hrd.1.shape
  have x01 := x0.then x1
  dsimp only
  obtain ⟨L, hL⟩ : ∃ L, L = tscan now [t] := ⟨_, rfl⟩
  have hnow : now.length ≤ n := by obtain ⟨_, _, _, _, _, _, _, _, _, _, _, _, _, _, _, _, _, ⟨_, h14, _⟩, _⟩ := h; exact h14
  have hLn : L.length ≤ 1048576 := by rw [hL]; exact Nat.le_trans (List.length_filter_le _ _) (Nat.le_trans hnow hn)
  have hof : ∀ p ∈ L, (oneNum p = none ∧ ofK p.1 t 1 = none) ∨ ∃ z, oneNum p = some z ∧ ofK p.1 t 1 = some [z] := fun p hp => ofK_one (now := now) (by rw [← hL]; exact hp)
  rw [← hL] at hrd ⊢
  have HL := Lib.hid hL.symm
  have HO := Lib.hid hof
  clear hL h hlit o1 ho1 hof
  go_wp2_with fail
  go_loopw [5, 7] (fun o s wr => ∃ i : Nat, i ≤ L.length ∧ s = .int .i64 i ∧ NewI w1 wr o ((L.take i).filterMap oneNum) ∧ Ext [] w1 wr) (fun _ s _ => L.length - (intOf s).toNat)
  case atStart => exact ⟨0, Nat.zero_le _, rfl, own_nil _ _ _ _, Ext.refl _ _⟩
  case round =>
    obtain ⟨i, hi, rfl, ho, hx⟩ := hrel
    by_cases hlt : i < L.length
    · obtain ⟨b, off, c', hpp, _⟩ := hrd.1.at (by omega)
      injection hpp with hpp _ hc'
      subst hpp; subst hc'
      obtain ⟨kv, vv, _, f1, f2, hk, hv⟩ := (hrd.then hx).at hlt
      have HF := Lib.hid (show (L.take (i + 1)).filterMap oneNum = (L.take i).filterMap oneNum ++ (oneNum L[i]).toList from filterMap_take hlt)
      have hle : ((L.take i).filterMap oneNum).length ≤ 1048576 := Nat.le_trans (List.length_filterMap_le _ _) (by simp; omega)
      have hsz := hx.size
      obtain ⟨kp, kc, rfl, _, _⟩ := hk.shape
      rcases HO.out L[i] (List.getElem_mem hlt) with ⟨h1, h2⟩ | ⟨z, h1, h2⟩
      · have hS := r18_Of_no hk h2
        have H1 := Lib.hid h1
        clear h1 h2 hk hv
        go_wp2_with (go_at_call 69; refine hS.mono ?_; rintro e w2 ⟨rfl, x2⟩)
        go_roundw
        case rel => exact ⟨i + 1, by omega, by go_num, by rw [HF.out, H1.out]; simpa using ho.then x2, hx.then x2⟩
        case measure => simp [intOf]; omega
      · have hS := r18_Of hk h2
        have H1 := Lib.hid h1
        clear h1 h2 hk hv
        iterate 60 (first | at_builtin | go_step | skip)
        go_at_call 69
        refine hS.mono ?_
        rintro e w2 ⟨r2, rfl, hr2, x2⟩
        obtain ⟨b2, o2, c2, rfl, hrow2⟩ := hr2.is.sl.at (by simp)
        have hcell2 := hrow2.cell (i := 0) (v := .int .i64 z) rfl
        rw [Nat.add_zero] at hcell2
        have ho2 := ho.then x2
        have hsz2 := x2.size
        dsimp only
        iterate 110 (first | at_builtin | go_step | skip)
        with_reducible refine app1 (k := 1) Tryz.underlying22 row_int (by decide) ho2.own ?_ ?_ ?_ ?_ ?_ ?_ ?_ ?_
        rfl
        exact iv_one [z]
        omega
        omega
        omega
        rfl
        rfl
        intro v1 w3 ho3 hx3 hat
        go_wp2_with fail
        go_roundw
        case rel =>
          refine ⟨i + 1, by omega, by go_num, ?_, (hx.then x2).trans hx3 (fun b hb hlt' => by have := own_fresh ho2 b (by simpa using hb); omega)⟩
          rw [HF.out, H1.out]
          exact NewI.snoc ho3
        case measure => simp [intOf]; omega
    · have e : i = L.length := by omega
      subst e
      go_wp2_with fail
      go_ret
      rw [List.take_length] at ho
      exact ⟨_, rfl, by rw [allNums, HL.out]; exact NewI.later ho x01.size, x01.then hx⟩

theorem r21_Fund (h : IsRef B w s n was now) (f : Int) :
    Calls Tryz.prog 31 #[.pointer (some ⟨s, 0, none⟩), .int .i64 f] w fun e w' => e = .returned (.tuple #[.string (str ((tget now (key 70 [f])).getD [])), .bool (tget now (key 70 [f])).isSome]) ∧ Ext [] w w' := by
  have hlit := lit_i1 w f
  have x0 := (Ext.refl [] w).alloc (.cells #[.int .i64 f] 3)
  have hK := r18_Key 70 _ [f] _ hlit.sl (by simp)
  go_enter Tryz.func31, Tryz.ntmps31
  iterate 60 (first | at_builtin | go_step | skip)
  go_at_call 34
  refine hK.mono ?_
  rintro e w1 ⟨r1, rfl, k1, x1⟩
  dsimp only
  iterate 60 (first | at_builtin | go_step | skip)
  go_at_call 52
  refine (ref_Get (h.then (x0.then x1)) _ (key 70 [f]) k1.bs).mono ?_
  rintro e w2 ⟨r2, rfl, k2, x2⟩
  have hst := run_str (P := Tryz.prog) (w := w2) Tryz.underlying63 Tryz.underlying5 Tryz.underlying9 k2.bs
  have hst2 := run_str (P := Tryz.prog) (w := w2.drew) Tryz.underlying63 Tryz.underlying5 Tryz.underlying9 (k2.bs.then (Ext.refl [] w2).drew)
  dsimp only
  go_wp2_with fail
  go_ret2
  exact ⟨rfl, (x0.then x1).then x2⟩

theorem r21_Funds (h : IsRef B w s n was now) (hn : n ≤ 1048576) :
    Calls Tryz.prog 32 #[.pointer (some ⟨s, 0, none⟩)] w fun e w' => ∃ r, e = .returned r ∧ NewI w w' r (allNums now 70) ∧ Ext [] w w' := by
  have hA := r21_all h hn 70
  go_enter Tryz.func32, Tryz.ntmps32
  go_wp2_with (go_at_call 53; refine hA.mono ?_; rintro e w1 ⟨r1, rfl, k1, x1⟩)
  go_ret
  exact ⟨_, rfl, k1, x1⟩

theorem r21_Object (h : IsRef B w s n was now) (o : Int) :
    Calls Tryz.prog 38 #[.pointer (some ⟨s, 0, none⟩), .int .i64 o] w fun e w' => e = .returned (.bool (fixedO o || (tget now (key 79 [o])).isSome)) ∧ Ext [] w w' := by
  have hlit := lit_i1 w o
  have x0 := (Ext.refl [] w).alloc (.cells #[.int .i64 o] 3)
  have hK := r18_Key 79 _ [o] _ hlit.sl (by simp)
  have hF := fun W => ref_codeFixed o W
  cases hq : (tget now (key 79 [o])).isSome with
  | true =>
    go_enter Tryz.func38, Tryz.ntmps38
    go_wp2_with (first
      | (go_at_call 58; refine (hF _).mono ?_; rintro e w3 ⟨rfl, rfl⟩)
      | (go_at_call 34; refine hK.mono ?_; rintro e w1 ⟨r1, rfl, k1, x1⟩)
      | (go_at_call 52; refine (ref_Get (h.then (x0.then x1)) _ (key 79 [o]) k1.bs).mono ?_; rintro e w2 ⟨r2, rfl, k2, x2⟩; rw [hq]))
    go_ret
    exact ⟨ret_bool (by simp), (x0.then x1).then x2⟩
  | false =>
    go_enter Tryz.func38, Tryz.ntmps38
    go_wp2_with (first
      | (go_at_call 58; refine (hF _).mono ?_; rintro e w3 ⟨rfl, rfl⟩)
      | (go_at_call 34; refine hK.mono ?_; rintro e w1 ⟨r1, rfl, k1, x1⟩)
      | (go_at_call 52; refine (ref_Get (h.then (x0.then x1)) _ (key 79 [o]) k1.bs).mono ?_; rintro e w2 ⟨r2, rfl, k2, x2⟩; rw [hq]))
    go_ret
    exact ⟨ret_bool (by simp), (x0.then x1).then x2⟩

theorem r21_NewFund (h : IsRef B w s n was now) (hn : n ≤ 1048576) (f : Int) (name : Bytes) (hl : name.length ≤ 1048576) :
    Calls Tryz.prog 10 #[.pointer (some ⟨s, 0, none⟩), .int .i64 f, .string (str name)] w fun e w' => e = .returned (.int .i64 (newFund now f name).1) ∧ IsRef B w' s (n + 1) was (newFund now f name).2 ∧ RExt B w w' := by
  have hF := ref_codeFund f w
  have hN := r21_Name name w hl
  cases ha : fundOk f with
  | false =>
    have HE := Lib.hid (show newFund now f name = (1, now) by simp [newFund, ha])
    rw [ha] at hF
    go_enter Tryz.func10, Tryz.ntmps10
    go_wp2_with (go_at_call 29; refine hF.mono ?_; rintro e w1 ⟨rfl, rfl⟩)
    go_ret
    rw [HE.out]
    exact ⟨rfl, h.mono (by omega), RExt.of (Ext.refl _ _)⟩
  | true =>
    rw [ha] at hF
    cases hb : nameOk name with
    | false =>
      have HE := Lib.hid (show newFund now f name = (1, now) by simp [newFund, ha, hb])
      rw [hb] at hN
      go_enter Tryz.func10, Tryz.ntmps10
      go_wp2_with (first
        | (go_at_call 29; refine hF.mono ?_; rintro e w1 ⟨rfl, rfl⟩)
        | (go_at_call 30; refine hN.mono ?_; rintro e w1 ⟨rfl, rfl⟩))
      go_ret
      rw [HE.out]
      exact ⟨rfl, h.mono (by omega), RExt.of (Ext.refl _ _)⟩
    | true =>
      rw [hb] at hN
      cases hc : (tget now (key 70 [f])).isSome with
      | true =>
        have HE := Lib.hid (show newFund now f name = (8, now) by simp [newFund, ha, hb, hc])
        go_enter Tryz.func10, Tryz.ntmps10
        go_wp2_with (first
          | (go_at_call 29; refine hF.mono ?_; rintro e w1 ⟨rfl, rfl⟩)
          | (go_at_call 30; refine hN.mono ?_; rintro e w1 ⟨rfl, rfl⟩)
          | (go_at_call 31; refine (r21_Fund h f).mono ?_; rintro e w2 ⟨rfl, x2⟩; rw [hc]))
        go_ret
        rw [HE.out]
        exact ⟨rfl, (h.then x2).mono (by omega), RExt.of x2⟩
      | false =>
        by_cases hd : 40 ≤ (allNums now 70).length
        · have HE := Lib.hid (show newFund now f name = (11, now) by simp [newFund, ha, hb, hc, hd])
          have hd' : (40 : Int) ≤ ((allNums now 70).length : Int) := by omega
          go_enter Tryz.func10, Tryz.ntmps10
          go_wp2_with (first
            | (go_at_call 29; refine hF.mono ?_; rintro e w1 ⟨rfl, rfl⟩)
            | (go_at_call 30; refine hN.mono ?_; rintro e w1 ⟨rfl, rfl⟩)
            | (go_at_call 31; refine (r21_Fund h f).mono ?_; rintro e w2 ⟨rfl, x2⟩; rw [hc])
            | (go_at_call 32; refine (r21_Funds (h.then x2) hn).mono ?_; rintro e w3 ⟨r3, rfl, k3, x3⟩; obtain ⟨p3, c3, rfl, _, _⟩ := own_size k3))
          go_ret
          rw [HE.out]
          exact ⟨rfl, (h.then (x2.then x3)).mono (by omega), RExt.of (x2.then x3)⟩
        · have HE := Lib.hid (show newFund now f name = (putE (key 70 [f]) name, putT now (key 70 [f]) name) by simp [newFund, ha, hb, hc, hd])
          have hd' : ¬ (40 : Int) ≤ ((allNums now 70).length : Int) := by omega
          have hcv := run_cvb name
          clear hd
          go_enter Tryz.func10, Tryz.ntmps10
          go_wp2_with (first
            | (go_at_call 29; refine hF.mono ?_; rintro e w1 ⟨rfl, rfl⟩)
            | (go_at_call 30; refine hN.mono ?_; rintro e w1 ⟨rfl, rfl⟩)
            | (go_at_call 31; refine (r21_Fund h f).mono ?_; rintro e w2 ⟨rfl, x2⟩; rw [hc])
            | (go_at_call 32; refine (r21_Funds (h.then x2) hn).mono ?_; rintro e w3 ⟨r3, rfl, k3, x3⟩; obtain ⟨p3, c3, rfl, _, _⟩ := own_size k3)
            | (go_at_call 34; refine (r18_Key 70 _ [f] _ (lit_i1 _ f).sl (by simp)).mono ?_; rintro e w4 ⟨r4, rfl, k4, x4⟩))
          have xx := (((x2.then x3).then ((Ext.refl [] w3).alloc (.cells #[.int .i64 f] 3))).then x4).then (cv_ext name w4)
          refine (ref_PutA (h.then xx) (by omega) _ _ (key 70 [f]) name (Stay.of (k4.bs.then (cv_ext name w4))) (Stay.of (cv_bs name w4 (by omega)))).mono ?_
          rintro e w5 ⟨rfl, h5, x5⟩
          go_wp2_with fail
          go_ret
          rw [HE.out]
          exact ⟨rfl, h5, (RExt.of xx).trans x5⟩
end Go.Proofs.YtbbfgbkbdhghbaaGreatDoor

set_option linter.unusedVariables false
set_option linter.unusedSimpArgs false
namespace Go.Proofs.YtbbfgbkbdhghbaaGreatDoor
open Go.RowKit

theorem alook_put_int (m : List (Int × Int)) (k n f : Int) : alook (aput m k n) f = if k = f then some n else alook m f := by
  unfold aput
  have happ : ∀ m : List (Int × Int), alook m k = none → alook (m ++ [(k, n)]) f = if k = f then some n else alook m f := fun m => by
    induction m with
    | nil => intro _; by_cases e : k = f <;> simp [alook, e]
    | cons p m ih =>
      intro h
      by_cases e : p.1 = k
      · simp [alook, e] at h
      · have ih := ih (by simpa [alook, List.find?_cons, e] using h)
        by_cases e' : p.1 = f
        · have : ¬ k = f := fun h => e (e'.trans h.symm)
          simp [alook, e', this]
        · simpa [alook, List.find?_cons, e'] using ih
  have hmap : ∀ m : List (Int × Int), alook (m.map (fun p => if p.1 = k then (k, n) else p)) f = if k = f then (alook m k).map (fun _ => n) else alook m f := fun m => by
    induction m with
    | nil => by_cases e : k = f <;> simp [alook, e]
    | cons p m ih =>
      by_cases e : p.1 = k
      · by_cases e' : k = f
        · simp [alook, e, e']
        · have : ¬ p.1 = f := fun h => e' (e.symm.trans h)
          simp only [List.map_cons, e, if_true]
          simp only [e', if_false] at ih ⊢
          simp only [alook, List.find?_cons, e', this, decide_false] at ih ⊢
          exact ih
      · by_cases e' : p.1 = f
        · have : ¬ k = f := fun h => e (e'.trans h.symm)
          simp only [List.map_cons, e, if_false, this]
          simp only [alook, List.find?_cons, e', decide_true, Option.map_some]
        · simp only [List.map_cons, e, if_false]
          simp only [alook, List.find?_cons, e, e', decide_false] at ih ⊢
          exact ih
  cases h : alook m k with
  | none =>
    simp only [Option.isSome_none, Bool.false_eq_true, if_false]
    exact happ m h
  | some y =>
    simp only [Option.isSome_some, if_true]
    rw [hmap, h]
    rfl

def sumF (l : List Ln) (f : Int) : Int := ((l.filter (fun x => x.1 == f)).map (fun x => x.2.2.2)).sum
theorem sums_look : ∀ (l : List Ln) (m : List (Int × Int)) (f : Int), alook (l.foldl (fun m x => fadd m x.1 x.2.2.2) m) f = if l.any (fun x => x.1 == f) then some (wrap64 ((alook m f).getD 0 + sumF l f)) else alook m f
  | [], m, f => by simp
  | x :: l, m, f => by
    rw [List.foldl_cons, sums_look l _ f, fadd, alook_put_int]
    by_cases e : x.1 = f
    · subst e
      have hs : sumF (x :: l) x.1 = x.2.2.2 + sumF l x.1 := by simp [sumF]
      rw [hs]
      simp only [if_true, List.any_cons, beq_self_eq_true, Bool.true_or, Option.getD_some]
      by_cases ha : l.any (fun y => y.1 == x.1) = true
      · rw [if_pos ha]
        congr 1
        unfold wrap64
        omega
      · rw [if_neg ha]
        have h0 : sumF l x.1 = 0 := by
          have : l.filter (fun y => y.1 == x.1) = [] := by
            rw [List.filter_eq_nil_iff]
            intro y hy hh
            exact ha (List.any_eq_true.2 ⟨y, hy, hh⟩)
          simp [sumF, this]
        rw [h0, Int.add_zero]
    · have hs : sumF (x :: l) f = sumF l f := by simp [sumF, e]
      have e2 : (x.1 == f) = false := beq_eq_false_iff_ne.2 e
      rw [hs, List.any_cons, e2, Bool.false_or, if_neg e]

theorem mem_sums {m : List (Int × Int)} (hn : (m.map (·.1)).Nodup) (k v : Int) : (k, v) ∈ m ↔ alook m k = some v := by
  induction m with
  | nil => simp [alook]
  | cons p m ih =>
    rw [List.map_cons, List.nodup_cons] at hn
    have ih := ih hn.2
    by_cases e : p.1 = k
    · have hk : ∀ v, (k, v) ∉ m := fun v hv => hn.1 (List.mem_map.2 ⟨(k, v), hv, e.symm⟩)
      have : alook (p :: m) k = some p.2 := by simp [alook, e]
      rw [this]
      simp only [List.mem_cons, hk, or_false, Option.some.injEq]
      constructor
      · intro h; rw [← h]
      · intro h; subst h; subst e; rfl
    · have h1 : alook (p :: m) k = alook m k := by simp [alook, List.find?_cons, e]
      rw [h1, ← ih]
      simp only [List.mem_cons]
      constructor
      · rintro (h | h)
        · exact absurd (by rw [← h]) e
        · exact h
      · exact Or.inr

theorem fundsOf_ext {l m : List Ln} (h : ∀ f, alook (sumsOf l) f = alook (sumsOf m) f) : fundsOf l = fundsOf m := by
  have nl : (sumsOf l).Nodup := List.Pairwise.imp (S := fun (a b : Int × Int) => a ≠ b) (fun h e => h (by rw [e])) (List.pairwise_map.1 (sumsOf_nodup l))
  have nm : (sumsOf m).Nodup := List.Pairwise.imp (S := fun (a b : Int × Int) => a ≠ b) (fun h e => h (by rw [e])) (List.pairwise_map.1 (sumsOf_nodup m))
  have hp : (sumsOf l).Perm (sumsOf m) := by
    rw [List.perm_ext_iff_of_nodup nl nm]
    rintro ⟨k, v⟩
    rw [mem_sums (sumsOf_nodup l), mem_sums (sumsOf_nodup m), h]
  exact RiseI.perm_eq (((fundsOf_perm l).trans hp).trans (fundsOf_perm m).symm) (fundsOf_rise l) (fundsOf_rise m)

theorem sum_perm {a b : List Int} (h : a.Perm b) : a.sum = b.sum := by
  induction h with
  | nil => rfl
  | cons x _ ih => simp [ih]
  | swap x y l => simp only [List.sum_cons]; omega
  | trans _ _ h1 h2 => exact h1.trans h2
theorem fundsL_perm {l m : List Ln} (h : l.Perm m) : fundsL l = fundsL m := by
  unfold fundsL
  rw [fundsOf_ext (l := l) (m := m)]
  intro f
  unfold sumsOf
  rw [sums_look, sums_look]
  have h1 : l.any (fun x => x.1 == f) = m.any (fun x => x.1 == f) := h.any_eq
  have h2 : sumF l f = sumF m f := sum_perm ((h.filter _).map _)
  rw [h1, h2]
theorem fundsL_rise (l : List Ln) : ∀ i (h : i + 1 < (fundsL l).length), ¬ (fundsL l)[i + 1].1 < (fundsL l)[i].1 := by
  intro i h
  have hr := fundsOf_rise l
  unfold RiseI at hr
  rw [List.pairwise_iff_getElem] at hr
  have hl : (fundsL l).length = (fundsOf l).length := by simp [fundsL]
  have := hr i (i + 1) (by omega) (by omega) (by omega)
  simp only [fundsL, List.getElem_map, lnF]
  omega
end Go.Proofs.YtbbfgbkbdhghbaaGreatDoor

set_option linter.unusedVariables false
set_option linter.unusedSimpArgs false
namespace Go.Proofs.YtbbfgbkbdhghbaaGreatDoor
open Go.RowKit

theorem alook_app (A C : List (Int × Int)) (g : Int) : alook (A ++ C) g = (alook A g).or (alook C g) := by
  unfold alook
  rw [List.find?_append]
  cases A.find? (fun p => decide (p.1 = g)) <;> simp
theorem alook_none_of {A : List (Int × Int)} {g : Int} (h : ∀ p ∈ A, p.1 ≠ g) : alook A g = none := by
  simp only [alook, Option.map_eq_none_iff, List.find?_eq_none]
  intro p hp
  simpa using h p hp

theorem alook_cons (p : Int × Int) (m : List (Int × Int)) (g : Int) : alook (p :: m) g = if p.1 = g then some p.2 else alook m g := by
  by_cases e : p.1 = g <;> simp [alook, e]

/-- at k, the first place that is not below f -/
def At (P : List (Int × Int)) (f : Int) (k : Nat) : Prop := k ≤ P.length ∧ (∀ j (h : j < P.length), j < k → P[j].1 < f) ∧ ∀ h : k < P.length, ¬ P[k].1 < f
def pins (P : List (Int × Int)) (f a : Int) (k : Nat) : List (Int × Int) :=
  if h : k < P.length then (if P[k].1 = f then P.set k (f, wrap64 (P[k].2 + a)) else P.take k ++ [(f, a)] ++ P.drop k) else P.take k ++ [(f, a)] ++ P.drop k

theorem At.below {P : List (Int × Int)} {f : Int} {k : Nat} (h : At P f k) : ∀ p ∈ P.take k, p.1 < f := by
  intro p hp
  obtain ⟨j, hj, rfl⟩ := List.mem_iff_getElem.1 hp
  rw [List.length_take] at hj
  rw [List.getElem_take]
  exact h.2.1 j (by omega) (by omega)
theorem At.above {P : List (Int × Int)} {f : Int} {k : Nat} (h : At P f k) (hr : RiseI P) : ∀ p ∈ P.drop k, f ≤ p.1 := by
  intro p hp
  obtain ⟨j, hj, rfl⟩ := List.mem_iff_getElem.1 hp
  rw [List.length_drop] at hj
  rw [List.getElem_drop]
  have hk : k < P.length := by omega
  have h1 := h.2.2 hk
  rcases Nat.eq_zero_or_pos j with rfl | hj0
  · simp only [Nat.add_zero]; omega
  · unfold RiseI at hr
    rw [List.pairwise_iff_getElem] at hr
    have := hr k (k + j) hk (by omega) (by omega)
    omega

theorem pins_spec {P : List (Int × Int)} {f a : Int} {k : Nat} (h : At P f k) (hr : RiseI P) (ha : I64 a) :
    RiseI (pins P f a k) ∧ ∀ g, alook (pins P f a k) g = if f = g then some (wrap64 ((alook P f).getD 0 + a)) else alook P g := by
  have hb := h.below
  have hab := h.above hr
  have hsplit := List.take_append_drop k P
  have hrt : RiseI (P.take k) := List.Pairwise.sublist (List.take_sublist k P) hr
  have hrd : RiseI (P.drop k) := List.Pairwise.sublist (List.drop_sublist k P) hr
  have hw : wrap64 (0 + a) = a := by obtain ⟨h1, h2⟩ := ha; unfold wrap64; omega
  have hnb : alook (P.take k) f = none := alook_none_of fun p hp e => by have := hb p hp; omega
  have ins : (∀ p ∈ P.drop k, p.1 ≠ f) → RiseI (P.take k ++ [(f, a)] ++ P.drop k) ∧ ∀ g, alook (P.take k ++ [(f, a)] ++ P.drop k) g = if f = g then some (wrap64 ((alook P f).getD 0 + a)) else alook P g := by
    intro hne
    refine ⟨?_, fun g => ?_⟩
    · unfold RiseI
      rw [List.append_assoc, List.pairwise_append]
      refine ⟨hrt, ?_, ?_⟩
      · rw [List.singleton_append, List.pairwise_cons]
        exact ⟨fun p hp => by have := hab p hp; have := hne p hp; simp only; omega, hrd⟩
      · intro x hx y hy
        have := hb x hx
        rcases List.mem_append.1 hy with hy | hy
        · simp at hy; subst hy; exact this
        · have := hab y hy; omega
    · have hnd : alook (P.drop k) f = none := alook_none_of hne
      have hnf : alook P f = none := by rw [← hsplit, alook_app, hnb, hnd]; rfl
      rw [alook_app, alook_app]
      by_cases e : f = g
      · subst e
        rw [hnb, if_pos rfl, hnf, alook_cons, if_pos rfl]
        simp only [Option.none_or, Option.some_or, Option.getD_none, hw]
      · rw [if_neg e]
        conv => rhs; rw [← hsplit, alook_app]
        have : alook [(f, a)] g = none := by simp [alook, e]
        rw [this]
        cases alook (P.take k) g <;> rfl
  unfold pins
  by_cases hk : k < P.length
  · rw [dif_pos hk]
    by_cases e : P[k].1 = f
    · rw [if_pos e]
      have hd : P.drop k = P[k] :: P.drop (k + 1) := List.drop_eq_getElem_cons hk
      have hset : P.set k (f, wrap64 (P[k].2 + a)) = P.take k ++ (f, wrap64 (P[k].2 + a)) :: P.drop (k + 1) := List.set_eq_take_append_cons_drop.trans (by rw [if_pos hk])
      rw [hset]
      have hrd' : RiseI (P[k] :: P.drop (k + 1)) := hd ▸ hrd
      refine ⟨?_, fun g => ?_⟩
      · unfold RiseI at hrd' ⊢
        rw [List.pairwise_cons] at hrd'
        rw [List.pairwise_append]
        refine ⟨hrt, List.pairwise_cons.2 ⟨fun p hp => by have := hrd'.1 p hp; simp only; omega, hrd'.2⟩, ?_⟩
        intro x hx y hy
        have := hb x hx
        rcases List.mem_cons.1 hy with rfl | hy
        · exact this
        · have := hrd'.1 y hy; omega
      · have hf : alook P f = some P[k].2 := by
          conv => lhs; rw [← hsplit, alook_app, hnb, hd, alook_cons, if_pos e]
          rfl
        rw [alook_app, hf]
        by_cases e' : f = g
        · subst e'
          rw [hnb, if_pos rfl, alook_cons, if_pos rfl]
          rfl
        · rw [if_neg e']
          conv => rhs; rw [← hsplit, alook_app, hd]
          have h1 : alook ((f, wrap64 (P[k].2 + a)) :: P.drop (k + 1)) g = alook (P.drop (k + 1)) g := by rw [alook_cons, if_neg e']
          have h2 : alook (P[k] :: P.drop (k + 1)) g = alook (P.drop (k + 1)) g := by
            rw [alook_cons, if_neg (fun h => e' (e.symm.trans h))]
          rw [h1, h2]
    · rw [if_neg e]
      refine ins fun p hp ep => ?_
      obtain ⟨j, hj, rfl⟩ := List.mem_iff_getElem.1 hp
      rw [List.length_drop] at hj
      rw [List.getElem_drop] at ep
      have h1 := h.2.2 hk
      rcases Nat.eq_zero_or_pos j with rfl | hj0
      · exact e (by simpa using ep)
      · unfold RiseI at hr
        rw [List.pairwise_iff_getElem] at hr
        have := hr k (k + j) hk (by omega) (by omega)
        omega
  · rw [dif_neg hk]
    refine ins fun p hp => ?_
    rw [List.drop_eq_nil_of_le (by omega)] at hp
    simp at hp

theorem alook_funds (l : List Ln) (f : Int) : alook (fundsOf l) f = alook (sumsOf l) f := by
  have nl := (((fundsOf_perm l).map (·.1)).nodup_iff).2 (sumsOf_nodup l)
  cases h : alook (sumsOf l) f with
  | some v => exact (mem_sums nl f v).1 ((fundsOf_perm l).mem_iff.2 ((mem_sums (sumsOf_nodup l) f v).2 h))
  | none =>
    cases h2 : alook (fundsOf l) f with
    | none => rfl
    | some v =>
      have := (mem_sums (sumsOf_nodup l) f v).1 ((fundsOf_perm l).mem_iff.1 ((mem_sums nl f v).2 h2))
      rw [h] at this; exact absurd this (by simp)

theorem funds_snoc {l : List Ln} {x : Ln} {k : Nat} (h : At (fundsOf l) x.1 k) (ha : I64 x.2.2.2) : pins (fundsOf l) x.1 x.2.2.2 k = fundsOf (l ++ [x]) := by
  obtain ⟨h1, h2⟩ := pins_spec h (fundsOf_rise l) ha
  refine RiseI.perm_eq ?_ h1 (fundsOf_rise _)
  have n1 := RiseI.nodup h1
  have n2 := RiseI.nodup (fundsOf_rise (l ++ [x]))
  rw [List.perm_ext_iff_of_nodup n1 n2]
  rintro ⟨g, v⟩
  have m1 : ((pins (fundsOf l) x.1 x.2.2.2 k).map (·.1)).Nodup := List.pairwise_map.2 (h1.imp fun h => by omega)
  have m2 : ((fundsOf (l ++ [x])).map (·.1)).Nodup := List.pairwise_map.2 ((fundsOf_rise (l ++ [x])).imp fun h => by omega)
  rw [mem_sums m1, mem_sums m2, h2, alook_funds, alook_funds, alook_funds, sumsOf_snoc, fadd, alook_put_int]
end Go.Proofs.YtbbfgbkbdhghbaaGreatDoor

set_option linter.unusedVariables false
set_option linter.unusedSimpArgs false
namespace Go.Proofs.YtbbfgbkbdhghbaaGreatDoor
open Go.RowKit
variable {P : Program} {ops : Array Oper} {o : Oper} {a : Act} {w : World} {K : Act → World → Prop} {Q : Exit → Act → World → Prop} {E : Prop}

theorem step_app (hg : o.guard = none) (s x : Operand) (t : TypeId) (hop : o.op = Op.call { callee := Callee.builtin Builtin.append, args := #[s, x], argTypes := #[t, t] })
    {base e k bytes : Nat} {z : Value} (ht : P.underlying t = some (.slice e)) (hr : TRow P e z k bytes) (hk : 0 < k)
    {v : Value} {n : Nat} {xs : List Value} (hs : a.eval s = v) (hown : w.ownsRow base e k v n xs)
    {T : TypeId} {sv : Value} {m : Nat} {ys : List Value} (hx : a.eval x = sv) (hsl : Sl w T sv m ys) (hl : ys.length = m * k) (h1 : ∀ u ∈ ys, u.oneCell' = true)
    (hn : (n + m) * bytes ≤ 140737488355328) (h63 : n + m ≤ 9223372036854775807) (hbase : base ≤ w.heap.size)
    (hK : ∀ v' w', w'.ownsRow base e k v' (n + m) (xs ++ ys) → w.grownBy w' v.ownBlock → K (a.put o.dst v') w') :
    if Region.wanted o (yielded ops a.tmps) = true then Oper.wp P o a w K Q else E := by
  have hw : Region.wanted o (yielded ops a.tmps) = true := by simp [Region.wanted, hg]
  rw [if_pos hw]
  obtain ⟨i, hi, hz, hsz, hby, hzs⟩ := hr.parts
  rcases Nat.eq_zero_or_pos m with rfl | hm
  · obtain ⟨p', c', rfl, _, _⟩ := hsl.shape
    obtain ⟨p, c, hv, hnc, _⟩ := own_size hown
    have hy : ys = [] := List.eq_nil_of_length_eq_zero (by simpa using hl)
    subst hy
    have hrun := run_append_zero (P := P) (k := k) t o.type e i ht hi p p' n c c' hnc w hsz (.inr trivial)
    rw [← hv] at hrun
    unfold Oper.wp
    simp [execOp, hop, resolve, invoke, builtin, hs, hx, hrun, Result.andThen]
    exact hK v w (by simpa using hown) ⟨rfl, rfl, rfl, Nat.le_refl _, fun _ _ _ => rfl⟩
  · obtain ⟨b, off, c, rfl, hrow⟩ := hsl.at hm
    obtain ⟨v', w', hrun, r1, r2, r3⟩ := run_append_own (P := P) w base t o.type e i z k bytes ht hi hz hsz hby hzs hk v n xs hown ⟨b, off, none⟩ m c ys hl (Sl.cells_add (n := 0) (c := 0) hrow) h1 (by unfold maxLen; omega) hn hbase
    unfold Oper.wp
    simp [execOp, hop, resolve, invoke, builtin, hs, hx, hrun, Result.andThen]
    exact hK v' w' r1 r2
end Go.Proofs.YtbbfgbkbdhghbaaGreatDoor
