/-
  The library functions over bytes: Clone, Equal, HasPrefix, Compare.
-/
import Derived.Test.YtbbfgbkbdhghbaaGreatDoorPre
import Derived.Laws.BytesArg
import Derived.Lib.ConvBytes
import Derived.Lib.Bytealg
import Derived.Laws.Externs
set_option linter.unusedVariables false
set_option linter.unusedSimpArgs false
namespace Go.Proofs.YtbbfgbkbdhghbaaGreatDoor
open Go.RowKit

/-- bytes as a string -/
def str (l : Bytes) : ByteArray := ⟨l.toArray⟩
theorem str_inj {a b : Bytes} (h : str a = str b) : a = b := by simpa [str] using h
@[go_sem] theorem str_toList (l : Bytes) : (str l).toList = l := by rw [ByteArray.toList_eq]; rfl
@[go_sem] theorem str_size (l : Bytes) : (str l).size = l.length := by simp [str, ByteArray.size]
@[go_sem] theorem str_get (l : Bytes) (i : Nat) (h : i < (str l).size) : (str l)[i] = l[i]'(by simpa [str, ByteArray.size] using h) := by simp [str, ByteArray.getElem_eq_getElem_data]
theorem str_data (s : ByteArray) : str s.data.toList = s := by simp [str]

theorem run_str {P : Program} {src dst T : TypeId} {w : World} {v : Value} {l : Bytes} (hs : P.underlying src = some (.slice T)) (he : P.underlying T = some (.int .u8)) (hd : P.underlying dst = some .string) {U : TypeId} (h : Bs U w v l) :
    (convert src dst v).run P w = .ok (.string (str l)) w := by
  have e : strOfNums (l.map fun b => (b.toNat : Int)) = str l := by
    simp [strOfNums, str, List.map_map, Function.comp_def]
  obtain ⟨p, c, rfl, _, _, ⟨h0, h1⟩ | ⟨hn, b, off, rfl, hr⟩⟩ := h
  · have : l = [] := by simpa using h1
    subst this
    cases p with
    | none => exact run_convert_bytes_nil w src T hs he 0 c dst hd
    | some a =>
      rw [run_convert_bytes_string w src dst T _ _ c hs he hd]
      simp [Conv.bytesToString, loadCells, loadCellsFrom, str]
      rfl
  · rw [← e]
    refine run_convert_bytes_arg w src T hs he b off l.length c _ (by simp) (fun i hi => ?_) dst hd
    have := hr.cell (i := i) (v := .int .u8 ((l.map fun b => (b.toNat : Int)).getD i 0)) (by simp [bv, List.getElem?_eq_getElem hi, List.getD_eq_getElem?_getD])
    exact this

section
variable {P : Program} {ops : Array Oper} {rest : List Oper} {a : Act} {Q : Exit → Act → World → Prop} {w : World} {d : Option Tmp} {x : Tmp} {ty : TypeId} {pos : String} {after : Array Edge}
/-- string(bytes) -/
theorem cv_str {src dst T : TypeId} {v : Value} {l : Bytes} (hs : P.underlying src = some (.slice T)) (he : P.underlying T = some (.int .u8)) (hd : P.underlying dst = some .string) {U : TypeId} (h : Bs U w v l)
    (hx : a.eval (.tmp x) = v) (hk : wpList P ops Q rest (a.put d (.string (str l))) w) : wpList P ops Q (⟨d, .convert src dst (.tmp x), ty, pos, after, none⟩ :: rest) a w := by
  refine wpList_plain rfl fun K hK => ?_
  unfold Oper.wp execOp
  simp only [hx, Sem.run_bind, run_str hs he hd h]
  exact hK _ _ hk
end

theorem bytes_Clone {U : TypeId} (v : Value) (l : Bytes) (w : World) (hv : Bs U w v l) (hl : l.length ≤ 4294967296) :
    Calls Tryz.prog 50 #[v] w fun e w' => ∃ r, e = .returned r ∧ NewB w w' r l ∧ Ext [] w w' := by
  obtain ⟨p, c, rfl, hc1, hc2⟩ := hv.shape
  have hnil := fun W => Lib.run_eql_slice_nil (P := Tryz.prog) W 63 5 p l.length c 0 0 Tryz.underlying63
  cases p with
  | none =>
    have : l = [] := by
      obtain ⟨p, c, e, _, _, ⟨_, h1⟩ | ⟨hn, b, off, e1, _⟩⟩ := hv
      · simpa using h1
      · injection e with e; rw [← e] at e1; simp at e1
    subst this
    simp only [List.length_nil] at hnil ⊢
    clear hl hc1 hc2 hv
    go_enter Tryz.func50, Tryz.ntmps50
    go_wp2_with fail
    go_ret
    exact ⟨_, rfl, own_nil _ _ _ _, Ext.refl _ _⟩
  | some p =>
    have h0 := own_lit w.heap.size 5 1 #[] 0 rfl w (Nat.le_refl _) (by decide)
    have x0 := (Ext.refl [] w).alloc (.cells #[] 5)
    have hv' := (hv.then x0).sl
    have hl1 : (l.map bv).length = l.length * 1 := by simp
    have hl2 := bv_one l
    go_enter Tryz.func50, Tryz.ntmps50
    iterate 40 (first | at_builtin | go_step | skip)
    with_reducible refine app Tryz.underlying63 row_u8 (by decide) h0 hv' hl1 hl2 (by omega) (by omega) ?_ ?_ ?_ ?_
    simp
    rfl
    rfl
    intro v' w1 ho hg hat
    go_wp2_with fail
    go_ret
    exact ⟨_, rfl, by simpa [NewB] using ho, x0.grown hg (by simp [Value.ownBlock])⟩

theorem bytes_Equal {U1 U2 : TypeId} (v1 v2 : Value) (l1 l2 : Bytes) (w : World) (h1 : Bs U1 w v1 l1) (h2 : Bs U2 w v2 l2) :
    Calls Tryz.prog 105 #[v1, v2] w fun e w' => e = .returned (.bool (l1 == l2)) ∧ w = w' := by
  have c1 := run_str (P := Tryz.prog) Tryz.underlying63 Tryz.underlying5 Tryz.underlying9 h1
  have c2 := run_str (P := Tryz.prog) Tryz.underlying63 Tryz.underlying5 Tryz.underlying9 h2
  go_enter Tryz.func105, Tryz.ntmps105
  go_wp2_with fail
  go_ret
  exact ⟨rfl, rfl⟩

theorem Bs.take {T : TypeId} {w : World} {p : Option Addr} {n c : Nat} {l : Bytes} (h : Bs T w (.slice p n c) l) (k : Nat) (hk : k ≤ l.length) : Bs T w (.slice p k c) (l.take k) := by
  obtain ⟨p', c', e, h1, h2, h3⟩ := h
  injection e with e1 e2 e3
  subst e1; subst e2; subst e3
  have hl : (l.take k).length = k := by rw [List.length_take]; omega
  refine ⟨p, c, by rw [hl], by omega, h2, ?_⟩
  rcases Nat.eq_zero_or_pos k with rfl | hp
  · left; simp
  · right
    rcases h3 with ⟨h3, _⟩ | ⟨h3, b, off, rfl, hr⟩
    · omega
    · refine ⟨by omega, b, off, rfl, ?_⟩
      have := hr.sub 0 k (by simp; omega)
      simpa [List.map_take] using this

theorem bytes_HasPrefix {U1 U2 : TypeId} (v1 v2 : Value) (l1 l2 : Bytes) (w : World) (h1 : Bs U1 w v1 l1) (h2 : Bs U2 w v2 l2) :
    Calls Tryz.prog 86 #[v1, v2] w fun e w' => e = .returned (.bool (l2.isPrefixOf l1)) ∧ w = w' := by
  obtain ⟨p1, c1, rfl, hc1, hd1⟩ := h1.shape
  obtain ⟨p2, c2, rfl, hc2, hd2⟩ := h2.shape
  by_cases hle : l2.length ≤ l1.length
  · have h3 := h1.take l2.length hle
    have hb := Lib.hid (show (l1.take l2.length == l2) = l2.isPrefixOf l1 by
      rw [Bool.eq_iff_iff, List.isPrefixOf_iff_prefix, List.prefix_iff_eq_take, beq_iff_eq]
      exact ⟨fun h => h.symm, fun h => h.symm⟩)
    go_enter Tryz.func86, Tryz.ntmps86
    go_wp2_with (go_at_call 105; refine (bytes_Equal _ _ _ _ _ h3 h2).mono ?_; rintro e w' ⟨rfl, rfl⟩)
    go_ret
    exact ⟨ret_bool hb.out, rfl⟩
  · have hb := Lib.hid (show l2.isPrefixOf l1 = false by
      rw [Bool.eq_false_iff, ne_eq, List.isPrefixOf_iff_prefix]
      exact fun h => hle h.length_le)
    go_enter Tryz.func86, Tryz.ntmps86
    go_wp2_with fail
    go_ret
    exact ⟨ret_bool hb.out.symm, rfl⟩

theorem run_loadBytes {P : Program} {w : World} (b : Nat) : ∀ (l : Bytes) (off : Nat) (acc : ByteArray), (∀ i, (h : i < l.length) → w.cell? ⟨b, off + i, none⟩ = some (bv l[i])) →
    (Extern.Bytes.loadBytes ⟨b, off, none⟩ l.length acc).run P w = .ok ⟨acc.data ++ l.toArray⟩ w
  | [], off, acc, _ => by simp [Extern.Bytes.loadBytes]
  | x :: l, off, acc, h => by
    have h0 := h 0 (by simp)
    simp only [Nat.add_zero, List.getElem_cons_zero, bv] at h0
    have ih := run_loadBytes (P := P) (w := w) b l (off + 1) (acc.push x) (fun i hi => by
      have := h (i + 1) (by simpa using hi)
      simpa [Nat.add_assoc, Nat.add_comm 1 i] using this)
    have e : ((x.toNat : Int).toNat).toUInt8 = x := by simp
    simp only [Extern.Bytes.loadBytes, List.length_cons, load, Sem.run_bind, Sem.run, h0, Result.andThen, e, add_off]
    rw [ih]
    simp [ByteArray.push]
theorem run_bytesOf {P : Program} {T : TypeId} {w : World} {v : Value} {l : Bytes} (h : Bs T w v l) : (Extern.Bytes.bytesOf v).run P w = .ok (str l) w := by
  obtain ⟨p, c, rfl, _, _, ⟨h0, h1⟩ | ⟨hn, b, off, rfl, hr⟩⟩ := h
  · have : l = [] := by simpa using h1
    subst this
    cases p <;> simp [Extern.Bytes.bytesOf, Extern.Bytes.loadBytes] <;> rfl
  · simp only [Extern.Bytes.bytesOf]
    rw [run_loadBytes b l off _ (fun i hi => hr.cell (by simp [hi]))]
    simp [str, ByteArray.empty, ByteArray.emptyWithCapacity]
    rfl

def cmpB (a b : Bytes) : Int := if a < b then -1 else if b < a then 1 else 0
theorem cmpB_eq : ∀ a b : Bytes, Lib.compareBytes a b = cmpB a b
  | [], [] => by simp [Lib.compareBytes, cmpB]
  | [], _ :: _ => by simp [Lib.compareBytes, cmpB]
  | _ :: _, [] => by simp [Lib.compareBytes, cmpB]
  | a :: xs, b :: ys => by
    have ih := cmpB_eq xs ys
    simp only [Lib.compareBytes, ih, cmpB, List.cons_lt_cons_iff]
    by_cases h1 : a < b
    · simp [h1]
    · by_cases h2 : b < a
      · have : a ≠ b := fun e => by subst e; exact h1 h2
        simp [h1, h2, this]
      · have : a = b := UInt8.le_antisymm (UInt8.not_lt.1 h2) (UInt8.not_lt.1 h1)
        subst this
        simp [h1]
theorem bytes_Compare {U1 U2 : TypeId} (v1 v2 : Value) (l1 l2 : Bytes) (w : World) (h1 : Bs U1 w v1 l1) (h2 : Bs U2 w v2 l2) :
    Calls Tryz.prog 89 #[v1, v2] w fun e w' => e = .returned (.int .i64 (cmpB l1 l2)) ∧ w = w' := by
  have hx : (Extern.BytealgCompare.compare #[v1, v2]).run Tryz.prog w = .ok (.int .i64 (cmpB l1 l2)) w := by
    change Sem.run Tryz.prog (do pure (goInt (Extern.BytealgCompare.cmp (← Extern.Bytes.bytesOf v1) (← Extern.Bytes.bytesOf v2)))) w = _
    simp only [Sem.run_bind, run_bytesOf h1, run_bytesOf h2, Result.andThen, Lib.cmp_eq]
    rw [cmpB_eq]
    rfl
  have hc := run_callFunc_extern (P := Tryz.prog) (f := 107) (e := Extern.BytealgCompare.compare) Tryz.func107 (by kernel_rfl) rfl (by kernel_rfl) (by kernel_rfl) #[v1, v2] w
  rw [hx] at hc
  go_enter Tryz.func89, Tryz.ntmps89
  go_wp2_with fail
  go_ret
  exact ⟨rfl, rfl⟩
end Go.Proofs.YtbbfgbkbdhghbaaGreatDoor
