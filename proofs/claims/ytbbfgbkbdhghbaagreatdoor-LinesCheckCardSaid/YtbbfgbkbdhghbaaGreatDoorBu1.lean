/-
  The library functions over bytes: Clone, Equal, HasPrefix, Compare.
  Steps of a walk that ranges over a map.
  A view in memory, as two sorted tables: plain laws.
  view.New, ready, was and Get.
  view.Put.
  Slices of headers, and what lies behind each: plain laws.
  Maps' entries struck, and looked up: plain laws.
  What was changed, as lists: plain laws.
-/
import Derived.Test.YtbbfgbkbdhghbaaGreatDoorBu0
import Derived.Laws.BytesArg
import Derived.Lib.ConvBytes
import Derived.Lib.Bytealg
import Derived.Laws.Externs
import Derived.Lib.AtoiErrMem
import Derived.Laws.AppendOwn
set_option linter.unusedVariables false
set_option linter.unusedSimpArgs false
namespace Go.Proofs.YtbbfgbkbdhghbaaGreatDoor
open Go.RowKit

/-- bytes as a string -/
def str (l : Bytes) : ByteArray := ⟨l.toArray⟩
theorem str_inj {a b : Bytes} (h : str a = str b) : a = b := by simpa [str] using h
@[go_sem] theorem str_toList (l : Bytes) : (str l).toList = l := by rw [ByteArray.toList_eq]; rfl
@[go_sem] theorem str_size (l : Bytes) : (str l).size = l.length := by simp [str, ByteArray.size]
@[go_sem] theorem str_get (l : Bytes) (i : Nat) (h : i < (str l).size) : (str l)[i] = l[i]'(by simpa [str, ByteArray.size] using h) := by simp [str, ByteArray.getElem_eq_getElem_data]
theorem str_data (s : ByteArray) : str s.data.toList = s := by simp [str]

theorem run_str {P : Program} {src dst T : TypeId} {w : World} {v : Value} {l : Bytes} (hs : P.underlying src = some (.slice T)) (he : P.underlying T = some (.int .u8)) (hd : P.underlying dst = some .string) {U : TypeId} (h : Bs U w v l) :
    (convert src dst v).run P w = .ok (.string (str l)) w := by
  have e : strOfNums (l.map fun b => (b.toNat : Int)) = str l := by
    simp [strOfNums, str, List.map_map, Function.comp_def]
  obtain ⟨p, c, rfl, _, _, ⟨h0, h1⟩ | ⟨hn, b, off, rfl, hr⟩⟩ := h
  · have : l = [] := by simpa using h1
    subst this
    cases p with
    | none => exact run_convert_bytes_nil w src T hs he 0 c dst hd
    | some a =>
      rw [run_convert_bytes_string w src dst T _ _ c hs he hd]
      simp [Conv.bytesToString, loadCells, loadCellsFrom, str]
      rfl
  · rw [← e]
    refine run_convert_bytes_arg w src T hs he b off l.length c _ (by simp) (fun i hi => ?_) dst hd
    have := hr.cell (i := i) (v := .int .u8 ((l.map fun b => (b.toNat : Int)).getD i 0)) (by simp [bv, List.getElem?_eq_getElem hi, List.getD_eq_getElem?_getD])
    exact this

section
variable {P : Program} {ops : Array Oper} {rest : List Oper} {a : Act} {Q : Exit → Act → World → Prop} {w : World} {d : Option Tmp} {x : Tmp} {ty : TypeId} {pos : String} {after : Array Edge}
/-- string(bytes) -/
theorem cv_str {src dst T : TypeId} {v : Value} {l : Bytes} (hs : P.underlying src = some (.slice T)) (he : P.underlying T = some (.int .u8)) (hd : P.underlying dst = some .string) {U : TypeId} (h : Bs U w v l)
    (hx : a.eval (.tmp x) = v) (hk : wpList P ops Q rest (a.put d (.string (str l))) w) : wpList P ops Q (⟨d, .convert src dst (.tmp x), ty, pos, after, none⟩ :: rest) a w := by
  refine wpList_plain rfl fun K hK => ?_
  unfold Oper.wp execOp
  simp only [hx, Sem.run_bind, run_str hs he hd h]
  exact hK _ _ hk
end

theorem bytes_Clone {U : TypeId} (v : Value) (l : Bytes) (w : World) (hv : Bs U w v l) (hl : l.length ≤ 4294967296) :
    Calls Tryz.prog 50 #[v] w fun e w' => ∃ r, e = .returned r ∧ NewB w w' r l ∧ Ext [] w w' := by
  obtain ⟨p, c, rfl, hc1, hc2⟩ := hv.shape
  have hnil := fun W => Lib.run_eql_slice_nil (P := Tryz.prog) W 63 5 p l.length c 0 0 Tryz.underlying63
  cases p with
  | none =>
    have : l = [] := by
      obtain ⟨p, c, e, _, _, ⟨_, h1⟩ | ⟨hn, b, off, e1, _⟩⟩ := hv
      · simpa using h1
      · injection e with e; rw [← e] at e1; simp at e1
    subst this
    simp only [List.length_nil] at hnil ⊢
    clear hl hc1 hc2 hv
    go_enter Tryz.func50, Tryz.ntmps50
    go_wp2_with fail
    go_ret
    exact ⟨_, rfl, own_nil _ _ _ _, Ext.refl _ _⟩
  | some p =>
    have h0 := own_lit w.heap.size 5 1 #[] 0 rfl w (Nat.le_refl _) (by decide)
    have x0 := (Ext.refl [] w).alloc (.cells #[] 5)
    have hv' := (hv.then x0).sl
    have hl1 : (l.map bv).length = l.length * 1 := by simp
    have hl2 := bv_one l
    go_enter Tryz.func50, Tryz.ntmps50
    iterate 40 (first | at_builtin | go_step | skip)
    with_reducible refine app Tryz.underlying63 row_u8 (by decide) h0 hv' hl1 hl2 (by omega) (by omega) ?_ ?_ ?_ ?_
    simp
    rfl
    rfl
    intro v' w1 ho hg hat
    go_wp2_with fail
    go_ret
    exact ⟨_, rfl, by simpa [NewB] using ho, x0.grown hg (by simp [Value.ownBlock])⟩

theorem bytes_Equal {U1 U2 : TypeId} (v1 v2 : Value) (l1 l2 : Bytes) (w : World) (h1 : Bs U1 w v1 l1) (h2 : Bs U2 w v2 l2) :
    Calls Tryz.prog 105 #[v1, v2] w fun e w' => e = .returned (.bool (l1 == l2)) ∧ w = w' := by
  have c1 := run_str (P := Tryz.prog) Tryz.underlying63 Tryz.underlying5 Tryz.underlying9 h1
  have c2 := run_str (P := Tryz.prog) Tryz.underlying63 Tryz.underlying5 Tryz.underlying9 h2
  go_enter Tryz.func105, Tryz.ntmps105
  go_wp2_with fail
  go_ret
  exact ⟨rfl, rfl⟩

theorem Bs.take {T : TypeId} {w : World} {p : Option Addr} {n c : Nat} {l : Bytes} (h : Bs T w (.slice p n c) l) (k : Nat) (hk : k ≤ l.length) : Bs T w (.slice p k c) (l.take k) := by
  obtain ⟨p', c', e, h1, h2, h3⟩ := h
  injection e with e1 e2 e3
  subst e1; subst e2; subst e3
  have hl : (l.take k).length = k := by rw [List.length_take]; omega
  refine ⟨p, c, by rw [hl], by omega, h2, ?_⟩
  rcases Nat.eq_zero_or_pos k with rfl | hp
  · left; simp
  · right
    rcases h3 with ⟨h3, _⟩ | ⟨h3, b, off, rfl, hr⟩
    · omega
    · refine ⟨by omega, b, off, rfl, ?_⟩
      have := hr.sub 0 k (by simp; omega)
      simpa [List.map_take] using this

theorem bytes_HasPrefix {U1 U2 : TypeId} (v1 v2 : Value) (l1 l2 : Bytes) (w : World) (h1 : Bs U1 w v1 l1) (h2 : Bs U2 w v2 l2) :
    Calls Tryz.prog 86 #[v1, v2] w fun e w' => e = .returned (.bool (l2.isPrefixOf l1)) ∧ w = w' := by
  obtain ⟨p1, c1, rfl, hc1, hd1⟩ := h1.shape
  obtain ⟨p2, c2, rfl, hc2, hd2⟩ := h2.shape
  by_cases hle : l2.length ≤ l1.length
  · have h3 := h1.take l2.length hle
    have hb := Lib.hid (show (l1.take l2.length == l2) = l2.isPrefixOf l1 by
      rw [Bool.eq_iff_iff, List.isPrefixOf_iff_prefix, List.prefix_iff_eq_take, beq_iff_eq]
      exact ⟨fun h => h.symm, fun h => h.symm⟩)
    go_enter Tryz.func86, Tryz.ntmps86
    go_wp2_with (go_at_call 105; refine (bytes_Equal _ _ _ _ _ h3 h2).mono ?_; rintro e w' ⟨rfl, rfl⟩)
    go_ret
    exact ⟨ret_bool hb.out, rfl⟩
  · have hb := Lib.hid (show l2.isPrefixOf l1 = false by
      rw [Bool.eq_false_iff, ne_eq, List.isPrefixOf_iff_prefix]
      exact fun h => hle h.length_le)
    go_enter Tryz.func86, Tryz.ntmps86
    go_wp2_with fail
    go_ret
    exact ⟨ret_bool hb.out.symm, rfl⟩

theorem run_loadBytes {P : Program} {w : World} (b : Nat) : ∀ (l : Bytes) (off : Nat) (acc : ByteArray), (∀ i, (h : i < l.length) → w.cell? ⟨b, off + i, none⟩ = some (bv l[i])) →
    (Extern.Bytes.loadBytes ⟨b, off, none⟩ l.length acc).run P w = .ok ⟨acc.data ++ l.toArray⟩ w
  | [], off, acc, _ => by simp [Extern.Bytes.loadBytes]
  | x :: l, off, acc, h => by
    have h0 := h 0 (by simp)
    simp only [Nat.add_zero, List.getElem_cons_zero, bv] at h0
    have ih := run_loadBytes (P := P) (w := w) b l (off + 1) (acc.push x) (fun i hi => by
      have := h (i + 1) (by simpa using hi)
      simpa [Nat.add_assoc, Nat.add_comm 1 i] using this)
    have e : ((x.toNat : Int).toNat).toUInt8 = x := by simp
    simp only [Extern.Bytes.loadBytes, List.length_cons, load, Sem.run_bind, Sem.run, h0, Result.andThen, e, add_off]
    rw [ih]
    simp [ByteArray.push]
theorem run_bytesOf {P : Program} {T : TypeId} {w : World} {v : Value} {l : Bytes} (h : Bs T w v l) : (Extern.Bytes.bytesOf v).run P w = .ok (str l) w := by
  obtain ⟨p, c, rfl, _, _, ⟨h0, h1⟩ | ⟨hn, b, off, rfl, hr⟩⟩ := h
  · have : l = [] := by simpa using h1
    subst this
    cases p <;> simp [Extern.Bytes.bytesOf, Extern.Bytes.loadBytes] <;> rfl
  · simp only [Extern.Bytes.bytesOf]
    rw [run_loadBytes b l off _ (fun i hi => hr.cell (by simp [hi]))]
    simp [str, ByteArray.empty, ByteArray.emptyWithCapacity]
    rfl

def cmpB (a b : Bytes) : Int := if a < b then -1 else if b < a then 1 else 0
theorem cmpB_eq : ∀ a b : Bytes, Lib.compareBytes a b = cmpB a b
  | [], [] => by simp [Lib.compareBytes, cmpB]
  | [], _ :: _ => by simp [Lib.compareBytes, cmpB]
  | _ :: _, [] => by simp [Lib.compareBytes, cmpB]
  | a :: xs, b :: ys => by
    have ih := cmpB_eq xs ys
    simp only [Lib.compareBytes, ih, cmpB, List.cons_lt_cons_iff]
    by_cases h1 : a < b
    · simp [h1]
    · by_cases h2 : b < a
      · have : a ≠ b := fun e => by subst e; exact h1 h2
        simp [h1, h2, this]
      · have : a = b := UInt8.le_antisymm (UInt8.not_lt.1 h2) (UInt8.not_lt.1 h1)
        subst this
        simp [h1]
theorem bytes_Compare {U1 U2 : TypeId} (v1 v2 : Value) (l1 l2 : Bytes) (w : World) (h1 : Bs U1 w v1 l1) (h2 : Bs U2 w v2 l2) :
    Calls Tryz.prog 89 #[v1, v2] w fun e w' => e = .returned (.int .i64 (cmpB l1 l2)) ∧ w = w' := by
  have hx : (Extern.BytealgCompare.compare #[v1, v2]).run Tryz.prog w = .ok (.int .i64 (cmpB l1 l2)) w := by
    change Sem.run Tryz.prog (do pure (goInt (Extern.BytealgCompare.cmp (← Extern.Bytes.bytesOf v1) (← Extern.Bytes.bytesOf v2)))) w = _
    simp only [Sem.run_bind, run_bytesOf h1, run_bytesOf h2, Result.andThen, Lib.cmp_eq]
    rw [cmpB_eq]
    rfl
  have hc := run_callFunc_extern (P := Tryz.prog) (f := 107) (e := Extern.BytealgCompare.compare) Tryz.func107 (by kernel_rfl) rfl (by kernel_rfl) (by kernel_rfl) #[v1, v2] w
  rw [hx] at hc
  go_enter Tryz.func89, Tryz.ntmps89
  go_wp2_with fail
  go_ret
  exact ⟨rfl, rfl⟩
end Go.Proofs.YtbbfgbkbdhghbaaGreatDoor

set_option linter.unusedVariables false
set_option linter.unusedSimpArgs false
set_option linter.unusedSectionVars false
namespace Go.Proofs.YtbbfgbkbdhghbaaGreatDoor
open Go.RowKit

/-- how many entries an iterator has before it -/
def iterLeft (w : World) (r : Nat) : Nat :=
  match w.heap[r]? with
  | some (.mapIter (some m) _ seen _) => match w.heap[m]? with
    | some (.map es _) => (leftOf es seen).size
    | _ => 0
  | _ => 0

section
variable {κ : Type} [DecidableEq κ] {E : KeyEnc κ} {P : Program} {w : World} {b r : Nat} {es left : List (κ × Value)} {t kt et : TypeId}
variable {ops : Array Oper} {rest : List Oper} {a : Act} {Q : Exit → Act → World → Prop} {d : Option Tmp} {x : Tmp} {ty : TypeId} {pos : String} {after : Array Edge}

theorem Iter.left_eq (h : Iter E w r b es left) : iterLeft w r = left.length := by
  obtain ⟨a, c, seen, h1, h2, h3, h4, h5⟩ := h
  have := congrArg List.length h5
  simp only [List.length_map, Array.length_toList] at this
  simp only [iterLeft, h4, h1, this]

theorem rng (h : MapIs E w b es) (ht : P.underlying t = some (.map kt et)) (hx : a.eval (.tmp x) = .map (some b))
    (hk : ∀ w', Iter E w' w.heap.size b es es → Ext [] w w' → wpList P ops Q rest (a.put d (.pointer (some ⟨w.heap.size, 0, none⟩))) w') :
    wpList P ops Q (⟨d, .range t (.tmp x), ty, pos, after, none⟩ :: rest) a w := by
  refine wpList_plain rfl fun K hK => ?_
  obtain ⟨h1, h2⟩ := Iter.start (P := P) h ht
  unfold Oper.wp
  simp [execOp, hx, h1, Result.andThen]
  exact hK _ _ (hk _ h2 ((Ext.refl [] w).alloc _))

theorem nxt (h : Iter E w r b es left) (hx : a.eval (.tmp x) = .pointer (some ⟨r, 0, none⟩)) (hdone : left = [] → wpList P ops Q rest (a.put d (.tuple #[.bool false])) w)
    (hmore : ∀ pre k v post w', left = pre ++ (k, v) :: post → (k, v) ∈ es → (Instr.entry (.pointer (some ⟨r, 0, none⟩))).run P w' = .ok (.tuple #[E.enc k, v]) w' →
      Iter E w' r b es (pre ++ post) → Ext [r] w w' → wpList P ops Q rest (a.put d (.tuple #[.bool true, E.enc k, v])) w') :
    wpList P ops Q (⟨d, .next (.tmp x) false, ty, pos, after, none⟩ :: rest) a w := by
  refine wpList_plain rfl fun K hK => ?_
  unfold Oper.wp
  rcases h.next (P := P) ty with ⟨h1, h2⟩ | ⟨pre, k, v, post, w', h1, h2, h3, h4, h5, h6, _⟩
  · simp [execOp, hx, h2, Result.andThen]
    exact hK _ _ (hdone h1)
  · simp [execOp, hx, h3, Result.andThen]
    exact hK _ _ (hmore pre k v post w' h1 h2 h4 h5 h6)

/-- []byte(s): a new slice that nobody may append to -/
theorem cv_bytes {src dst T : TypeId} {l : Bytes} (hs : P.underlying src = some .string) (hd : P.underlying dst = some (.slice T)) (he : P.underlying T = some (.int .u8)) (hl : l.length ≤ 9223372036854775807)
    (hx : a.eval (.tmp x) = .string (str l)) (hk : ∀ v w', Bs T w' v l → (∃ c, v = .slice (some ⟨w.heap.size, 0, none⟩) l.length c) → Ext [] w w' → wpList P ops Q rest (a.put d v) w') :
    wpList P ops Q (⟨d, .convert src dst (.tmp x), ty, pos, after, none⟩ :: rest) a w := by
  refine wpList_plain rfl fun K hK => ?_
  have hr := Lib.run_convert_string_bytes (P := P) w src dst T (str l) hs hd he
  unfold Oper.wp execOp
  simp only [hx, Sem.run_bind, hr]
  have hx0 : Ext [] w (Lib.bytesWorld w T (str l)) := Ext.of_below (Lib.bytesWorld_below w T (str l))
  have hsz : (str l).size = l.length := str_size l
  have hcap := grownCap_ge w (str l).size 0 T
  have hcap2 := grownCap_le_maxLen w (str l).size 0 T (by unfold maxLen; omega)
  unfold maxLen at hcap2
  have hat := Lib.bytesWorld_at_new w T (str l)
  rw [hsz] at hcap hcap2 ⊢
  refine hK _ _ (hk _ _ ⟨_, _, rfl, hcap, by omega, ?_⟩ ⟨_, rfl⟩ hx0)
  rcases Nat.eq_zero_or_pos l.length with h0 | h0
  · left
    exact ⟨h0, by rw [List.length_eq_zero_iff.1 h0]; rfl⟩
  · right
    refine ⟨h0, _, _, rfl, _, _, hat, ?_, ?_⟩
    · simp [Lib.bytesCells, str]
    · simp [Lib.bytesCells, str, bv, List.map_map, Function.comp_def]
end
end Go.Proofs.YtbbfgbkbdhghbaaGreatDoor

set_option linter.unusedVariables false
set_option linter.unusedSimpArgs false
namespace Go.Proofs.YtbbfgbkbdhghbaaGreatDoor
open Go.RowKit

/-- the blocks of a view -/
structure VW where
  s : Nat
  c : Nat
  m : Nat

/-- what stands in the map of changes -/
def ShapeV (w : World) (x : Value) : Option Bytes → Prop
  | some b => ∃ v, x = .agg #[v, .bool false] ∧ Bs 5 w v b
  | none => x = .agg #[.slice none 0 0, .bool true]

theorem ShapeV.ext {w w' : World} {x : Value} {o : Option Bytes} {M : List Nat} (h : ShapeV w x o) (e : Ext M w w') (hm : ∀ b ∈ M, ∀ cs fr, w.heap[b]? ≠ some (.cells cs 5 fr)) : ShapeV w' x o := by
  cases o with
  | none => exact h
  | some b => obtain ⟨v, rfl, hb⟩ := h; exact ⟨v, rfl, hb.sl.ext e hm⟩

/-- entries of a map, and what they are -/
def Ents {α : Type} (R : Value → α → Prop) : List (Bytes × Value) → List (Bytes × α) → Prop
  | [], [] => True
  | p :: es, q :: xs => (p.1 = q.1 ∧ R p.2 q.2) ∧ Ents R es xs
  | _, _ => False
theorem Ents.nil {α : Type} (R : Value → α → Prop) : Ents R [] [] := trivial
theorem Ents.cons {α : Type} {R : Value → α → Prop} {p : Bytes × Value} {q : Bytes × α} {es : List (Bytes × Value)} {xs : List (Bytes × α)} (h1 : p.1 = q.1) (h2 : R p.2 q.2) (h : Ents R es xs) : Ents R (p :: es) (q :: xs) := ⟨⟨h1, h2⟩, h⟩
theorem Ents.ind {α : Type} {R : Value → α → Prop} {P : List (Bytes × Value) → List (Bytes × α) → Prop} (h0 : P [] [])
    (h1 : ∀ p q es xs, p.1 = q.1 → R p.2 q.2 → Ents R es xs → P es xs → P (p :: es) (q :: xs)) : ∀ {es : List (Bytes × Value)} {xs : List (Bytes × α)}, Ents R es xs → P es xs
  | [], [], _ => h0
  | _ :: _, _ :: _, h => h1 _ _ _ _ h.1.1 h.1.2 h.2 (Ents.ind h0 h1 h.2)
  | [], _ :: _, h => h.elim
  | _ :: _, [], h => h.elim

theorem Ents.look {α : Type} {R : Value → α → Prop} {es : List (Bytes × Value)} {xs : List (Bytes × α)} (h : Ents R es xs) (k : Bytes) :
    (alook es k = none ∧ alook xs k = none) ∨ ∃ v x, alook es k = some v ∧ alook xs k = some x ∧ R v x := by
  refine Ents.ind (P := fun es xs => (alook es k = none ∧ alook xs k = none) ∨ ∃ v x, alook es k = some v ∧ alook xs k = some x ∧ R v x) (.inl ⟨rfl, rfl⟩) ?_ h
  intro p q es xs h1 h2 _ ih
  by_cases e : p.1 = k
  · have e' : q.1 = k := h1 ▸ e
    exact .inr ⟨p.2, q.2, by simp [alook, e], by simp [alook, e'], h2⟩
  · have e' : ¬ q.1 = k := h1 ▸ e
    simpa [alook, List.find?_cons, e, e'] using ih
theorem Ents.imp {α : Type} {R S : Value → α → Prop} {es : List (Bytes × Value)} {xs : List (Bytes × α)} (h : Ents R es xs) (hi : ∀ v x, R v x → S v x) : Ents S es xs :=
  Ents.ind (P := fun es xs => Ents S es xs) trivial (fun _ _ _ _ h1 h2 _ ih => ⟨⟨h1, hi _ _ h2⟩, ih⟩) h
theorem Ents.length {α : Type} {R : Value → α → Prop} {es : List (Bytes × Value)} {xs : List (Bytes × α)} (h : Ents R es xs) : es.length = xs.length :=
  Ents.ind (R := R) (P := fun es xs => es.length = xs.length) rfl (fun _ _ _ _ _ _ _ ih => by simp [ih]) h
theorem Ents.map {α : Type} {R : Value → α → Prop} {es : List (Bytes × Value)} {xs : List (Bytes × α)} (h : Ents R es xs) : es.map (·.1) = xs.map (·.1) :=
  Ents.ind (R := R) (P := fun es xs => es.map (·.1) = xs.map (·.1)) rfl (fun _ _ _ _ h1 _ _ ih => by simp [ih, h1]) h
theorem Ents.put {α : Type} {R : Value → α → Prop} {es : List (Bytes × Value)} {xs : List (Bytes × α)} (h : Ents R es xs) (k : Bytes) {v : Value} {x : α} (hv : R v x) : Ents R (aput es k v) (aput xs k x) := by
  have hrep : Ents R (es.map (fun p => if p.1 = k then (k, v) else p)) (xs.map (fun p => if p.1 = k then (k, x) else p)) := by
    refine Ents.ind (P := fun es xs => Ents R (es.map (fun p => if p.1 = k then (k, v) else p)) (xs.map (fun p => if p.1 = k then (k, x) else p))) (Ents.nil R) ?_ h
    intro p q es xs h1 h2 _ ih
    rw [List.map_cons, List.map_cons]
    by_cases e : p.1 = k
    · have e' : q.1 = k := h1 ▸ e
      rw [if_pos e, if_pos e']; exact Ents.cons rfl hv ih
    · have e' : ¬ q.1 = k := h1 ▸ e
      rw [if_neg e, if_neg e']; exact Ents.cons h1 h2 ih
  have happ : Ents R (es ++ [(k, v)]) (xs ++ [(k, x)]) :=
    Ents.ind (P := fun es xs => Ents R (es ++ [(k, v)]) (xs ++ [(k, x)])) (by rw [List.nil_append, List.nil_append]; exact Ents.cons (p := (k, v)) (q := (k, x)) rfl hv (Ents.nil R)) (fun _ _ _ _ h1 h2 _ ih => Ents.cons h1 h2 ih) h
  unfold aput
  rcases h.look k with ⟨h1, h2⟩ | ⟨_, _, h1, h2, _⟩
  · rw [h1, h2]; exact happ
  · rw [h1, h2]; exact hrep

theorem alook_aput {α : Type} (xs : List (Bytes × α)) (k k' : Bytes) (x : α) : alook (aput xs k x) k' = if k = k' then some x else alook xs k' := by
  unfold aput
  have hf : ∀ xs : List (Bytes × α), alook (xs ++ [(k, x)]) k' = (alook xs k').or (if k = k' then some x else none) := fun xs => by
    induction xs with
    | nil => by_cases e : k = k' <;> simp [alook, e]
    | cons p xs ih =>
      by_cases e : p.1 = k'
      · simp [alook, e]
      · simpa [alook, List.find?_cons, e] using ih
  have hr : ∀ xs : List (Bytes × α), alook (xs.map (fun p => if p.1 = k then (k, x) else p)) k' = if k = k' then (alook xs k).map (fun _ => x) else alook xs k' := fun xs => by
    induction xs with
    | nil => by_cases e : k = k' <;> simp [alook, e]
    | cons p xs ih =>
      by_cases e : p.1 = k
      · by_cases e' : k = k'
        · simp [alook, e, e']
        · have : ¬ p.1 = k' := fun h => e' (e.symm.trans h)
          simp only [List.map_cons, e, if_true]
          simp only [e', if_false] at ih ⊢
          simp only [alook, List.find?_cons, e', this, decide_false] at ih ⊢
          exact ih
      · by_cases e' : p.1 = k'
        · have : ¬ k = k' := fun h => e (e'.trans h.symm)
          simp only [List.map_cons, e, if_false, this]
          simp only [alook, List.find?_cons, e', decide_true, Option.map_some]
        · simp only [List.map_cons, e, if_false]
          simp only [alook, List.find?_cons, e, e', decide_false] at ih ⊢
          exact ih
  cases h : alook xs k with
  | none =>
    simp only [Option.isSome_none, Bool.false_eq_true, if_false]
    rw [hf]
    by_cases e : k = k'
    · subst e; simp [h]
    · simp [e]
  | some y =>
    simp only [Option.isSome_some, if_true]
    rw [hr, h]
    rfl
theorem aput_length {α : Type} (xs : List (Bytes × α)) (k : Bytes) (x : α) : (aput xs k x).length ≤ xs.length + 1 := by
  unfold aput; split <;> simp

theorem mem_aput {α : Type} {xs : List (Bytes × α)} {k : Bytes} {x : α} {p : Bytes × α} (h : p ∈ aput xs k x) : p = (k, x) ∨ p ∈ xs := by
  unfold aput at h
  split at h
  · obtain ⟨q, hq, e⟩ := List.mem_map.1 h
    split at e
    · exact .inl e.symm
    · exact .inr (e ▸ hq)
  · rcases List.mem_append.1 h with h | h
    · exact .inr h
    · exact .inl (by simpa using h)
/-- a key, and a value, that may stand -/
def Fit2 (k v : Bytes) : Prop := 1 ≤ k.length ∧ k.length ≤ 32 ∧ v.length ≤ 120

/-- V is a view in memory: at its last commit was, now now; n: at most so many entries stand in its maps. -/
structure IsView (w : World) (V : VW) (n : Nat) (was now : Tbl) : Prop where
  cells : w.heap[V.s]? = some (.cells #[.map (some V.c), .pointer none, .map (some V.m), .int .i64 0] 50 (0, 0))
  maps : ∃ ch me chx mex, MapIs strEnc w V.c ch ∧ MapIs strEnc w V.m me ∧ Ents (ShapeV w) ch chx ∧ Ents (Bs 5 w) me mex ∧ chx.length + mex.length ≤ n ∧
    (∀ k, tget was k = alook mex k) ∧ (∀ k, tget now k = match alook chx k with | some o => o | none => alook mex k) ∧ (∀ p ∈ chx, p.1.length ≤ 32)
  swas : Sorted was
  snow : Sorted now
  fwas : ∀ p ∈ was, Fit2 p.1 p.2
  fnow : ∀ p ∈ now, Fit2 p.1 p.2
  ne : V.c ≠ V.m

theorem nodup_len {α : Type} [DecidableEq α] : ∀ {l m : List α}, l.Nodup → (∀ x ∈ l, x ∈ m) → l.length ≤ m.length
  | [], _, _, _ => Nat.zero_le _
  | a :: l, m, hn, hs => by
    have h := nodup_len (l := l) (m := m.erase a) (List.nodup_cons.1 hn).2 (fun x hx => by
      have hne : x ≠ a := fun e => (List.nodup_cons.1 hn).1 (e ▸ hx)
      exact (List.mem_erase_of_ne hne).2 (hs x (.tail _ hx)))
    rw [List.length_erase_of_mem (hs a (.head _))] at h
    have : 0 < m.length := List.length_pos_of_mem (hs a (.head _))
    rw [List.length_cons]
    omega
theorem alook_memK {α : Type} {es : List (Bytes × α)} {k : Bytes} {v : α} (h : alook es k = some v) : k ∈ es.map (·.1) := by
  simp only [alook, Option.map_eq_some_iff] at h
  obtain ⟨p, hp, _⟩ := h
  have h1 := List.find?_some hp
  simp at h1
  exact List.mem_map.2 ⟨p, List.mem_of_find?_eq_some hp, h1⟩
theorem IsView.len {w : World} {V : VW} {n : Nat} {was now : Tbl} (h : IsView w V n was now) : now.length ≤ n := by
  obtain ⟨ch, me, chx, mex, _, _, _, _, h5, _, h7, _⟩ := h.maps
  have := nodup_len (m := chx.map (·.1) ++ mex.map (·.1)) h.snow.nodup (fun k hk => by
    obtain ⟨p, hp, rfl⟩ := List.mem_map.1 hk
    have hg := (h.snow.mem_iff (k := p.1) (v := p.2)).1 hp
    rw [h7] at hg
    cases hc : alook chx p.1 with
    | some o => exact List.mem_append_left _ (alook_memK hc)
    | none => rw [hc] at hg; exact List.mem_append_right _ (alook_memK hg))
  simp at this
  omega

def VW.M (V : VW) : List Nat := [V.s, V.c, V.m]

theorem IsView.lt {w : World} {V : VW} {n : Nat} {was now : Tbl} (h : IsView w V n was now) : V.s < w.heap.size ∧ V.c < w.heap.size ∧ V.m < w.heap.size := by
  obtain ⟨_, _, _, _, h1, h2, _⟩ := h.maps
  exact ⟨(Array.getElem?_eq_some_iff.1 h.cells).1, h1.lt, h2.lt⟩
theorem IsView.ext {w w' : World} {V : VW} {n : Nat} {was now : Tbl} {M : List Nat} (h : IsView w V n was now) (e : Ext M w w') (hd : ∀ b ∈ M, b ≠ V.s ∧ b ≠ V.c ∧ b ≠ V.m)
    (hm : ∀ b ∈ M, ∀ cs fr, w.heap[b]? ≠ some (.cells cs 5 fr)) : IsView w' V n was now := by
  have hs : V.s ∉ M := fun hb => (hd _ hb).1 rfl
  have hc : V.c ∉ M := fun hb => (hd _ hb).2.1 rfl
  have hmm : V.m ∉ M := fun hb => (hd _ hb).2.2 rfl
  obtain ⟨ch, me, chx, mex, h1, h2, h3, h4, h5⟩ := h.maps
  exact ⟨(e.block _ h.lt.1 hs).trans h.cells, ⟨ch, me, chx, mex, h1.ext e hc, h2.ext e hmm, h3.imp fun _ _ hx => hx.ext e hm, h4.imp fun _ _ hx => hx.sl.ext e hm, h5⟩, h.swas, h.snow, h.fwas, h.fnow, h.ne⟩
theorem IsView.then {w w' : World} {V : VW} {n : Nat} {was now : Tbl} (h : IsView w V n was now) (e : Ext [] w w') : IsView w' V n was now := h.ext e (by simp) (by simp)
theorem IsView.mono {w : World} {V : VW} {n n' : Nat} {was now : Tbl} (h : IsView w V n was now) (hn : n ≤ n') : IsView w V n' was now := by
  obtain ⟨ch, me, chx, mex, h1, h2, h3, h4, h5, h6⟩ := h.maps
  exact ⟨h.cells, ⟨ch, me, chx, mex, h1, h2, h3, h4, Nat.le_trans h5 hn, h6⟩, h.swas, h.snow, h.fwas, h.fnow, h.ne⟩
theorem IsView.cell {w : World} {V : VW} {n : Nat} {was now : Tbl} (h : IsView w V n was now) :
    w.cell? ⟨V.s, 0, none⟩ = some (.map (some V.c)) ∧ w.cell? ⟨V.s, 1, none⟩ = some (.pointer none) ∧ w.cell? ⟨V.s, 2, none⟩ = some (.map (some V.m)) ∧ w.cell? ⟨V.s, 3, none⟩ = some (.int .i64 0) := by
  simp [World.cell?, h.cells]
/-- the view's own blocks hold no bytes -/
theorem IsView.nobytes {w : World} {V : VW} {n : Nat} {was now : Tbl} (h : IsView w V n was now) {T : TypeId} (hT : T ≠ 50) : ∀ b ∈ V.M, ∀ cs fr, w.heap[b]? ≠ some (.cells cs T fr) := by
  obtain ⟨_, _, _, _, h1, h2, _⟩ := h.maps
  intro b hb cs fr
  simp only [VW.M, List.mem_cons, List.not_mem_nil, or_false] at hb
  rcases hb with rfl | rfl | rfl
  · rw [h.cells]
    intro e
    injection e with e
    injection e with _ e _
    exact hT e.symm
  · exact h1.ne_cells _ _ _
  · exact h2.ne_cells _ _ _

/-- bytes that outlive what the view turns -/
def StayV (V : VW) (U : TypeId) (w : World) (v : Value) (l : Bytes) : Prop := ∀ W, Ext V.M w W → Bs U W v l
theorem StayV.now {V : VW} {U : TypeId} {w : World} {v : Value} {l : Bytes} (h : StayV V U w v l) : Bs U w v l := h _ (Ext.refl _ _)
theorem StayV.later {V : VW} {U : TypeId} {w w' : World} {v : Value} {l : Bytes} (h : StayV V U w v l) (x : Ext V.M w w') : StayV V U w' v l := fun W y => h W (x.same y)
theorem StayV.of {V : VW} {n : Nat} {was now : Tbl} {w : World} {v : Value} {l : Bytes} (h : Bs 5 w v l) (hv : IsView w V n was now) : StayV V 5 w v l := fun W x => Sl.ext h x (hv.nobytes (by decide))
theorem StayV.old {V : VW} {U : TypeId} {w0 w : World} {v : Value} {l : Bytes} (h : Bs U w0 v l) (h0 : Ext [] w0 w) (hV : ∀ b ∈ V.M, w0.heap.size ≤ b) : StayV V U w v l :=
  fun W x => h.then (h0.trans x (fun b hb hl => absurd hl (Nat.not_lt.2 (hV b hb))))
end Go.Proofs.YtbbfgbkbdhghbaaGreatDoor

set_option linter.unusedVariables false
set_option linter.unusedSimpArgs false
namespace Go.Proofs.YtbbfgbkbdhghbaaGreatDoor
open Go.RowKit

@[go_sem] theorem neq_changes (w : World) (r : Option Nat) : (binOp .neq 47 (.map r) (.map none)).run Tryz.prog w = .ok (.bool (!r.isNone)) w :=
  run_neq_map_nil w 47 9 82 r Tryz.underlying47

theorem view_New (w : World) : Calls Tryz.prog 7 #[.pointer none] w fun e w' => ∃ V : VW, e = .returned (.pointer (some ⟨V.s, 0, none⟩)) ∧ IsView w' V 0 [] [] ∧ Ext [] w w' ∧ (∀ b ∈ V.M, w.heap.size ≤ b) := by
  have hmm := @run_makeMap Tryz.prog
  go_enter Tryz.func7, Tryz.ntmps7
  go_wp2_with fail
  go_ret
  refine ⟨⟨w.heap.size + 2, w.heap.size, w.heap.size + 1⟩, rfl, ?_, (((Ext.refl [] w).alloc _).alloc _).alloc _, by simp [VW.M]⟩
  have m1 : MapIs strEnc (w.alloc (.map #[] 0)) w.heap.size [] := MapIs.made w
  have m2 : MapIs strEnc ((w.alloc (.map #[] 0)).alloc (.map #[] 0)) (w.heap.size + 1) [] := by
    have := MapIs.made (E := strEnc) (w.alloc (.map #[] 0))
    simpa using this
  have x1 := (Ext.refl [] (w.alloc (.map #[] 0))).alloc (.map #[] 0)
  have x2 := (Ext.refl [] ((w.alloc (.map #[] 0)).alloc (.map #[] 0))).alloc (.cells #[.map (some w.heap.size), .pointer none, .map (some (w.heap.size + 1)), .int .i64 0] 50)
  refine ⟨?_, ⟨[], [], [], [], (m1.ext x1 (by simp)).ext x2 (by simp), m2.ext x2 (by simp), Ents.nil _, Ents.nil _, Nat.le_refl _, fun k => rfl, fun k => rfl, by simp⟩, Sorted.nil, Sorted.nil, by simp, by simp, by simp⟩
  have := heap_alloc_new ((w.alloc (.map #[] 0)).alloc (.map #[] 0)) (.cells #[.map (some w.heap.size), .pointer none, .map (some (w.heap.size + 1)), .int .i64 0] 50)
  simpa using this

theorem view_ready {w : World} {V : VW} {n : Nat} {was now : Tbl} (h : IsView w V n was now) : Calls Tryz.prog 49 #[.pointer (some ⟨V.s, 0, none⟩)] w fun e w' => e = .returned (.bool true) ∧ w = w' := by
  obtain ⟨c0, _, _, _⟩ := h.cell
  clear h
  go_enter Tryz.func49, Tryz.ntmps49
  go_wp2_with fail
  go_ret
  exact ⟨rfl, rfl⟩

theorem zero_bytes (w : World) : (zeroValue 63).run Tryz.prog w = .ok (.slice none 0 0) w := by kernel_rfl
theorem zero_shape (w : World) : (zeroValue 82).run Tryz.prog w = .ok (.agg #[.slice none 0 0, .bool false]) w := by kernel_rfl

theorem view_was {U : TypeId} {w : World} {V : VW} {n : Nat} {was now : Tbl} (h : IsView w V n was now) (kv : Value) (k : Bytes) (hk : Bs U w kv k) :
    Calls Tryz.prog 63 #[.pointer (some ⟨V.s, 0, none⟩), kv] w fun e w' => ∃ r, e = .returned (.tuple #[r, .bool (tget was k).isSome]) ∧ Bs 5 w r ((tget was k).getD []) ∧ (tget was k = none → r = .slice none 0 0) ∧ Ext [] w w' := by
  obtain ⟨c0, c1, c2, c3⟩ := h.cell
  obtain ⟨ch, me, chx, mex, hc, hm, ec, em, _, hwas, _⟩ := h.maps
  have hlook := (show MapIs strEnc w.drew V.m me from hm).look (P := Tryz.prog) (t := 48) Tryz.underlying48 Tryz.underlying9 (zero_bytes _) k
  have hstr := run_str (P := Tryz.prog) (w := w.drew) Tryz.underlying63 Tryz.underlying5 Tryz.underlying9 (show Bs U w.drew kv k from hk)
  change (Instr.lookup _ _ (.string (str k)) true).run _ _ = _ at hlook
  clear h hc hm ec
  go_enter Tryz.func63, Tryz.ntmps63
  go_wp2_with fail
  go_region
  go_wp2_with fail
  go_ret2
  have x1 : Ext [] w w.drew := (Ext.refl [] w).drew
  rcases em.look k with ⟨e1, e2⟩ | ⟨v, x, e1, e2, hb⟩
  · refine ⟨.slice none 0 0, ?_, ?_, fun _ => rfl, x1⟩
    · rw [hwas, e1, e2]; rfl
    · rw [hwas, e2]; exact Sl.nil _ _
  · refine ⟨v, ?_, ?_, fun h => ?_, x1⟩
    · rw [hwas, e1, e2]; rfl
    · rw [hwas, e2]; exact hb
    · rw [hwas, e2] at h; simp at h

theorem view_Get {U : TypeId} {w : World} {V : VW} {n : Nat} {was now : Tbl} (h : IsView w V n was now) (kv : Value) (k : Bytes) (hk : Bs U w kv k) :
    Calls Tryz.prog 47 #[.pointer (some ⟨V.s, 0, none⟩), kv] w fun e w' => ∃ r, e = .returned (.tuple #[r, .bool (tget now k).isSome]) ∧ NewB w w' r ((tget now k).getD []) ∧ Ext [] w w' := by
  obtain ⟨c0, c1, c2, c3⟩ := h.cell
  have h' := h
  obtain ⟨ch, me, chx, mex, hc, hm, ec, em, _, hwas, hnow, _⟩ := h.maps
  have hlook := (show MapIs strEnc w.drew V.c ch from hc).look (P := Tryz.prog) (t := 47) Tryz.underlying47 Tryz.underlying9 (zero_shape _) k
  have hstr := run_str (P := Tryz.prog) (w := w.drew) Tryz.underlying63 Tryz.underlying5 Tryz.underlying9 (show Bs U w.drew kv k from hk)
  change (Instr.lookup _ _ (.string (str k)) true).run _ _ = _ at hlook
  have xz := ((Ext.refl [] w).alloc (.cells #[.slice none 0 0, .bool false] 82)).drew
  have hlook2 := (hc.ext xz (by simp)).look (P := Tryz.prog) (t := 47) Tryz.underlying47 Tryz.underlying9 (zero_shape _) k
  have hstr2 := run_str (P := Tryz.prog) Tryz.underlying63 Tryz.underlying5 Tryz.underlying9 (hk.then xz)
  change (Instr.lookup _ _ (.string (str k)) true).run _ _ = _ at hlook2
  have c0z := ((h'.then xz).cell).1
  change (w.alloc _).cell? _ = _ at c0z
  have HC := Lib.hid hc
  have HN := Lib.hid hnow
  have HW := Lib.hid hwas
  clear hc hm em hwas hnow
  rcases ec.look k with ⟨e1, e2⟩ | ⟨v, x, e1, e2, hb⟩
  · rw [e1] at hlook hlook2
    simp only [Option.getD_none, Option.isSome_none] at hlook hlook2
    clear ec e1
    have E2 := Lib.hid e2
    clear e2
    go_enter Tryz.func47, Tryz.ntmps47
    go_wp2_with (go_at_call 49; refine (view_ready h').mono ?_; rintro e w' ⟨rfl, rfl⟩)
    go_region
    all_goals
      go_wp2_with fail
      refine (view_was (h'.then xz) kv k (hk.then xz)).mono ?_
      rintro e w1 ⟨r, rfl, hr, hr0, x1⟩
      have hsm : ((tget was k).getD []).length ≤ 4294967296 := by
        cases hg : tget was k with
        | none => simp
        | some v => have := h'.fwas _ (tget_mem hg); simp [Fit2] at this ⊢; omega
      go_wp2_with fail
      refine (bytes_Clone _ _ _ (hr.then x1) hsm).mono ?_
      rintro e w2 ⟨r2, rfl, hn, x2⟩
      go_wp2_with fail
      go_ret2
      have e : tget now k = tget was k := by rw [HN.out, E2.out, HW.out]
      rw [e]
      exact ⟨r2, rfl, hn.later (xz.then x1).size, (xz.then x1).then x2⟩
  · cases x with
    | none =>
      simp only [ShapeV] at hb
      subst hb
      rw [e1] at hlook hlook2
      simp only [Option.getD_some, Option.isSome_some] at hlook hlook2
      clear ec e1
      have E2 := Lib.hid e2
      clear e2
      go_enter Tryz.func47, Tryz.ntmps47
      go_wp2_with (go_at_call 49; refine (view_ready h').mono ?_; rintro e w' ⟨rfl, rfl⟩)
      go_region
      all_goals go_wp2_with fail
      all_goals go_ret2
      all_goals have e : tget now k = none := by rw [HN.out, E2.out]
      all_goals rw [e]
      all_goals exact ⟨_, rfl, own_nil _ _ _ _, (Ext.refl [] w).drew.alloc _⟩
    | some x =>
      obtain ⟨v, rfl, hb⟩ := hb
      obtain ⟨vp, vc, rfl, _, _⟩ := hb.shape
      rw [e1] at hlook hlook2
      simp only [Option.getD_some, Option.isSome_some] at hlook hlook2
      clear ec e1
      have e : tget now k = some x := by rw [HN.out, e2]
      have HE := Lib.hid e
      have hsm : x.length ≤ 4294967296 := by
        have := h'.fnow _ (tget_mem e); simp [Fit2] at this; omega
      clear e2 e
      go_enter Tryz.func47, Tryz.ntmps47
      go_wp2_with (go_at_call 49; refine (view_ready h').mono ?_; rintro e w' ⟨rfl, rfl⟩)
      go_region
      all_goals
        have xq : Ext [] w ((w.alloc (.cells #[.slice vp x.length vc, .bool false] 82)).drew) := ((Ext.refl [] w).alloc _).drew
        go_wp2_with (go_at_call 50; refine (bytes_Clone _ _ _ (hb.then xq) hsm).mono ?_; rintro e w2 ⟨r2, rfl, hn, x2⟩)
        go_ret2
        rw [HE.out]
        exact ⟨r2, rfl, hn.later xq.size, xq.then x2⟩
end Go.Proofs.YtbbfgbkbdhghbaaGreatDoor

set_option linter.unusedVariables false
set_option linter.unusedSimpArgs false
namespace Go.Proofs.YtbbfgbkbdhghbaaGreatDoor
open Go.RowKit

theorem IsView.put {w : World} {V : VW} {n : Nat} {was now : Tbl} (h : IsView w V n was now) {r : Value} {k v : Bytes} (hr : Bs 5 w r v) (hf : Fit2 k v) :
    ∃ w', (Instr.mapUpdate 47 (.map (some V.c)) (.string (str k)) (.agg #[r, .bool false])).run Tryz.prog w = .ok () w' ∧ IsView w' V (n + 1) was (tput now k v) ∧ Ext V.M w w' := by
  obtain ⟨ch, me, chx, mex, hc, hm, ec, em, hn, hwas, hnow, hkl⟩ := h.maps
  obtain ⟨w', hu, hc', hx, hs⟩ := hc.put (P := Tryz.prog) (t := 47) Tryz.underlying47 Tryz.underlying9 k (.agg #[r, .bool false])
  have hx' : Ext V.M w w' := hx.mono (by simp [VW.M])
  have hcb : ∀ b ∈ [V.c], ∀ cs fr, w.heap[b]? ≠ some (.cells cs 5 fr) := by
    intro b hb cs fr
    simp at hb
    subst hb
    exact hc.ne_cells _ _ _
  have hsc : V.s ≠ V.c := fun e => hc.ne_cells _ _ _ (e ▸ h.cells)
  refine ⟨w', hu, ⟨(hx.block _ h.lt.1 (by simpa using hsc)).trans h.cells, ⟨aput ch k (.agg #[r, .bool false]), me, aput chx k (some v), mex, hc', hm.ext hx (by simpa using h.ne.symm), ?_, ?_, ?_, hwas, ?_, ?_⟩, h.swas, h.snow.tput k v, h.fwas, ?_, h.ne⟩, hx'⟩
  · exact (ec.imp fun _ _ hx' => hx'.ext hx hcb).put k (x := some v) ⟨r, rfl, hr.sl.ext hx hcb⟩
  · exact em.imp fun _ _ hx' => hx'.sl.ext hx hcb
  · have := aput_length chx k (some v); omega
  · intro k'
    rw [tget_tput h.snow, alook_aput]
    by_cases e : k = k'
    · simp [e]
    · simp only [e, if_false]; exact hnow k'
  · intro p hp
    rcases mem_aput hp with rfl | hp
    · exact hf.2.1
    · exact hkl p hp
  · intro p hp
    rcases mem_tput hp with rfl | hp
    · exact hf
    · exact h.fnow p hp

theorem view_Put_no {U1 U2 : TypeId} {w : World} {V : VW} {n : Nat} {was now : Tbl} (h : IsView w V n was now) (kv vv : Value) (k v : Bytes) (hk : Bs U1 w kv k) (hv : Bs U2 w vv v) (hf : ¬ Fit2 k v) :
    Calls Tryz.prog 27 #[.pointer (some ⟨V.s, 0, none⟩), kv, vv] w fun e w' => e = .returned (.int .i64 1) ∧ w = w' := by
  obtain ⟨p1, c1, rfl, _, hd1⟩ := hk.shape
  obtain ⟨p2, c2, rfl, _, hd2⟩ := hv.shape
  have hf' : ¬ (1 ≤ k.length) ∨ 1 ≤ k.length ∧ ¬ (k.length ≤ 32) ∨ 1 ≤ k.length ∧ k.length ≤ 32 ∧ ¬ v.length ≤ 120 := by unfold Fit2 at hf; omega
  rcases hf' with h1 | ⟨h1, h2⟩ | ⟨h1, h2, h3⟩
  all_goals
    go_enter Tryz.func27, Tryz.ntmps27
    go_wp2_with (go_at_call 49; refine (view_ready h).mono ?_; rintro e w' ⟨rfl, rfl⟩)
    go_ret
    exact ⟨rfl, rfl⟩

theorem view_Put {U1 U2 : TypeId} {w : World} {V : VW} {n : Nat} {was now : Tbl} (h : IsView w V n was now) (kv vv : Value) (k v : Bytes) (hk0 : StayV V U1 w kv k) (hv : Bs U2 w vv v) (hf : Fit2 k v) :
    Calls Tryz.prog 27 #[.pointer (some ⟨V.s, 0, none⟩), kv, vv] w fun e w' => e = .returned (.int .i64 0) ∧ IsView w' V (n + 1) was (tput now k v) ∧ Ext V.M w w' := by
  have hk := hk0.now
  obtain ⟨p1, c1, rfl, _, hd1⟩ := hk.shape
  obtain ⟨p2, c2, rfl, _, hd2⟩ := hv.shape
  obtain ⟨f1, f2, f3⟩ := hf
  have hc0 := h.cell.1
  have hstr : ∀ W, Bs U1 W (.slice p1 k.length c1) k → (convert 63 9 (.slice p1 k.length c1)).run Tryz.prog W = .ok (.string (str k)) W :=
    fun W hW => run_str (P := Tryz.prog) Tryz.underlying63 Tryz.underlying5 Tryz.underlying9 hW
  have xd : Ext [] w w.drew := (Ext.refl [] w).drew
  have hkd := hk.then xd
  have hvd := hv.then xd
  go_enter Tryz.func27, Tryz.ntmps27
  go_wp2_with (go_at_call 49; refine (view_ready h).mono ?_; rintro e w' ⟨rfl, rfl⟩)
  go_region_held3 (fun W => W.cell? ⟨V.s, 0, none⟩ = some (.map (some V.c)) ∧ Bs U1 W (.slice p1 k.length c1) k) (first | exact ⟨hc0, hkd⟩ | exact ⟨(h.then (xd.then x1)).cell.1, hkd.then x1⟩ | exact ⟨hx2.cell.1, hk0 _ (((xd.then x1).mono (M' := V.M) (by simp)).same hz2)⟩) (first | (go_at_call 50; refine (bytes_Clone _ v _ hvd (by omega)).mono ?_; rintro e w1 ⟨r, rfl, hr, x1⟩; obtain ⟨rp, rc, rfl, _, _⟩ := hr.bs.sl.shape; obtain ⟨w2, hu, hx2, hz2⟩ := (IsView.put (h.then (xd.then x1)) hr.bs ⟨f1, f2, f3⟩)))
  all_goals
    go_wp2_with fail
    go_ret
    exact ⟨rfl, hx2, ((xd.then x1).mono (M' := V.M) (by simp)).same hz2⟩
end Go.Proofs.YtbbfgbkbdhghbaaGreatDoor

set_option linter.unusedVariables false
set_option linter.unusedSimpArgs false
set_option linter.unusedSectionVars false
namespace Go.Proofs.YtbbfgbkbdhghbaaGreatDoor
open Go.RowKit

/-! ### lists of headers, and what lies behind each -/
def Rel2 {α β : Type} (R : α → β → Prop) : List α → List β → Prop
  | [], [] => True
  | p :: es, q :: xs => R p q ∧ Rel2 R es xs
  | _, _ => False
section
variable {α β : Type} {R S : α → β → Prop}
theorem Rel2.nil (R : α → β → Prop) : Rel2 R [] [] := trivial
theorem Rel2.cons {p : α} {q : β} {es : List α} {xs : List β} (h1 : R p q) (h : Rel2 R es xs) : Rel2 R (p :: es) (q :: xs) := ⟨h1, h⟩
theorem Rel2.ind {P : List α → List β → Prop} (h0 : P [] []) (h1 : ∀ p q es xs, R p q → Rel2 R es xs → P es xs → P (p :: es) (q :: xs)) : ∀ {es : List α} {xs : List β}, Rel2 R es xs → P es xs
  | [], [], _ => h0
  | _ :: _, _ :: _, h => h1 _ _ _ _ h.1 h.2 (Rel2.ind h0 h1 h.2)
  | [], _ :: _, h => h.elim
  | _ :: _, [], h => h.elim
theorem Rel2.length {es : List α} {xs : List β} (h : Rel2 R es xs) : es.length = xs.length := Rel2.ind (R := R) (P := fun es xs => es.length = xs.length) rfl (fun _ _ _ _ _ _ ih => by simp [ih]) h
theorem Rel2.imp {es : List α} {xs : List β} (h : Rel2 R es xs) (hi : ∀ v x, R v x → S v x) : Rel2 S es xs := Rel2.ind (P := fun es xs => Rel2 S es xs) trivial (fun _ _ _ _ h1 _ ih => ⟨hi _ _ h1, ih⟩) h
theorem Rel2.append {es es' : List α} {xs xs' : List β} (h : Rel2 R es xs) (h' : Rel2 R es' xs') : Rel2 R (es ++ es') (xs ++ xs') := Rel2.ind (P := fun es xs => Rel2 R (es ++ es') (xs ++ xs')) h' (fun _ _ _ _ h1 _ ih => Rel2.cons h1 ih) h
theorem Rel2.one {p : α} {q : β} (h : R p q) : Rel2 R [p] [q] := ⟨h, trivial⟩
theorem Rel2.get {es : List α} {xs : List β} (h : Rel2 R es xs) : ∀ (i : Nat) (x : β), xs[i]? = some x → ∃ e, es[i]? = some e ∧ R e x := by
  refine Rel2.ind (P := fun es xs => ∀ (i : Nat) (x : β), xs[i]? = some x → ∃ e, es[i]? = some e ∧ R e x) (fun i x hx => by simp at hx) ?_ h
  intro p q es xs h1 _ ih i x hx
  cases i with
  | zero => simp at hx; subst hx; exact ⟨p, rfl, h1⟩
  | succ i => simpa using ih i x (by simpa using hx)
end

/-- a key's and a value's header, and the bytes there -/
def PairH (w : World) (h : Value × Value) (p : Bytes × Bytes) : Prop := Bs 5 w h.1 p.1 ∧ Bs 5 w h.2 p.2
def cells2 (hs : List (Value × Value)) : List Value := hs.flatMap fun h => [h.1, h.2]
theorem cells2_length (hs : List (Value × Value)) : (cells2 hs).length = hs.length * 2 := by
  induction hs with
  | nil => rfl
  | cons h hs ih => simp [cells2] at ih ⊢; omega
theorem cells2_append (a b : List (Value × Value)) : cells2 (a ++ b) = cells2 a ++ cells2 b := by simp [cells2]
theorem cells2_get (hs : List (Value × Value)) : ∀ (i : Nat) (h : Value × Value), hs[i]? = some h → (cells2 hs)[2 * i]? = some h.1 ∧ (cells2 hs)[2 * i + 1]? = some h.2 := by
  induction hs with
  | nil => intro i h hh; simp at hh
  | cons a hs ih =>
    intro i h hh
    cases i with
    | zero => simp at hh; subst hh; simp [cells2]
    | succ i =>
      have := ih i h (by simpa using hh)
      have e : 2 * (i + 1) = 2 * i + 2 := by omega
      simp only [cells2, List.flatMap_cons, e, List.cons_append, List.nil_append] at this ⊢
      exact this
theorem row_pair : TRow Tryz.prog 95 (.agg #[.slice none 0 0, .slice none 0 0]) 2 48 := ⟨by kernel_rfl, rfl⟩
theorem row_bytes : TRow Tryz.prog 63 (.slice none 0 0) 1 24 := ⟨by kernel_rfl, rfl⟩
theorem row_string : TRow Tryz.prog 9 (.string (str [])) 1 16 := ⟨by kernel_rfl, rfl⟩

/-- a new slice of pairs -/
def OwnP (base : Nat) (w : World) (r : Value) (l : Tbl) : Prop := ∃ hs, w.ownsRow base 95 2 r l.length (cells2 hs) ∧ Rel2 (PairH w) hs l
/-- a new slice of slices of bytes -/
def OwnD (base : Nat) (w : World) (r : Value) (l : List Bytes) : Prop := ∃ hs, w.ownsRow base 63 1 r l.length hs ∧ Rel2 (fun h b => Bs 5 w h b) hs l
def stv (s : Bytes) : Value := .string (str s)
def OwnS (base : Nat) (w : World) (r : Value) (l : List Bytes) : Prop := w.ownsRow base 9 1 r l.length (l.map stv)

theorem PairH.ext {w w' : World} {M : List Nat} {h : Value × Value} {p : Bytes × Bytes} (hp : PairH w h p) (e : Ext M w w') (hm : ∀ b ∈ M, ∀ cs fr, w.heap[b]? ≠ some (.cells cs 5 fr)) : PairH w' h p :=
  ⟨hp.1.sl.ext e hm, hp.2.sl.ext e hm⟩
/-- rows of another type hold no bytes -/
theorem own_other {w : World} {base T U k n : Nat} {v : Value} {xs : List Value} (h : w.ownsRow base T k v n xs) (hU : T ≠ U) : ∀ b ∈ v.ownBlock.toList, ∀ cs fr, w.heap[b]? ≠ some (.cells cs U fr) := by
  intro b hb cs fr hh
  obtain ⟨_, ⟨rfl, _⟩ | ⟨g, cap, cur, rfl, _, hg', _⟩⟩ := h
  · simp [Value.ownBlock] at hb
  · simp [Value.ownBlock] at hb
    subst hb
    rw [hg'] at hh
    injection hh with hh
    injection hh with _ hh _
    exact hU hh
theorem OwnP.nil (base : Nat) (w : World) : OwnP base w (.slice none 0 0) [] := ⟨[], own_nil _ _ _ _, trivial⟩
theorem OwnD.nil (base : Nat) (w : World) : OwnD base w (.slice none 0 0) [] := ⟨[], own_nil _ _ _ _, trivial⟩
theorem OwnP.ext {base : Nat} {w w' : World} {r : Value} {l : Tbl} {M : List Nat} (h : OwnP base w r l) (e : Ext M w w') (h1 : ∀ b, r.ownBlock = some b → b ∉ M) (hm : ∀ b ∈ M, ∀ cs fr, w.heap[b]? ≠ some (.cells cs 5 fr)) : OwnP base w' r l := by
  obtain ⟨hs, h2, h3⟩ := h
  exact ⟨hs, own_ext h2 e h1, h3.imp fun _ _ h => h.ext e hm⟩
theorem OwnD.ext {base : Nat} {w w' : World} {r : Value} {l : List Bytes} {M : List Nat} (h : OwnD base w r l) (e : Ext M w w') (h1 : ∀ b, r.ownBlock = some b → b ∉ M) (hm : ∀ b ∈ M, ∀ cs fr, w.heap[b]? ≠ some (.cells cs 5 fr)) : OwnD base w' r l := by
  obtain ⟨hs, h2, h3⟩ := h
  exact ⟨hs, own_ext h2 e h1, h3.imp fun _ _ h => h.sl.ext e hm⟩
theorem OwnP.then {base : Nat} {w w' : World} {r : Value} {l : Tbl} (h : OwnP base w r l) (e : Ext [] w w') : OwnP base w' r l := h.ext e (by simp) (by simp)
theorem OwnD.then {base : Nat} {w w' : World} {r : Value} {l : List Bytes} (h : OwnD base w r l) (e : Ext [] w w') : OwnD base w' r l := h.ext e (by simp) (by simp)
theorem OwnS.then {base : Nat} {w w' : World} {r : Value} {l : List Bytes} (h : OwnS base w r l) (e : Ext [] w w') : OwnS base w' r l := own_then h e

/-- behind an append of one pair -/
theorem OwnP.push {base : Nat} {w w' : World} {v v' : Value} {l : Tbl} {hs : List (Value × Value)} {h : Value × Value} {p : Bytes × Bytes} (ho : w.ownsRow base 95 2 v l.length (cells2 hs)) (hr : Rel2 (PairH w) hs l) (hp : PairH w h p)
    (ho' : w'.ownsRow base 95 2 v' (l.length + 1) (cells2 hs ++ [h.1, h.2])) (e : Ext v.ownBlock.toList w w') : OwnP base w' v' (l ++ [p]) := by
  refine ⟨hs ++ [h], ?_, (hr.append (Rel2.one hp)).imp fun _ _ hh => hh.ext e (own_other ho (by decide))⟩
  rw [cells2_append, List.length_append]
  exact ho'
theorem OwnD.push {base : Nat} {w w' : World} {v v' : Value} {l : List Bytes} {hs : List Value} {h : Value} {p : Bytes} (ho : w.ownsRow base 63 1 v l.length hs) (hr : Rel2 (fun h b => Bs 5 w h b) hs l) (hp : Bs 5 w h p)
    (ho' : w'.ownsRow base 63 1 v' (l.length + 1) (hs ++ [h])) (e : Ext v.ownBlock.toList w w') : OwnD base w' v' (l ++ [p]) := by
  refine ⟨hs ++ [h], ?_, (hr.append (Rel2.one hp)).imp fun _ _ hh => hh.sl.ext e (own_other ho (by decide))⟩
  rw [List.length_append]
  exact ho'
end Go.Proofs.YtbbfgbkbdhghbaaGreatDoor

set_option linter.unusedVariables false
set_option linter.unusedSimpArgs false
namespace Go.Proofs.YtbbfgbkbdhghbaaGreatDoor
open Go.RowKit

theorem Ents.del {α : Type} {R : Value → α → Prop} {es : List (Bytes × Value)} {xs : List (Bytes × α)} (h : Ents R es xs) (k : Bytes) : Ents R (adel es k) (adel xs k) := by
  refine Ents.ind (P := fun es xs => Ents R (adel es k) (adel xs k)) (Ents.nil R) ?_ h
  intro p q es xs h1 h2 _ ih
  unfold adel at ih ⊢
  by_cases e : p.1 = k
  · have e' : q.1 = k := h1 ▸ e
    simp only [List.filter_cons, e, e', ne_eq, not_true_eq_false, decide_false, Bool.false_eq_true, if_false]
    exact ih
  · have e' : ¬ q.1 = k := h1 ▸ e
    simp only [List.filter_cons, e, e', ne_eq, not_false_eq_true, decide_true, if_true]
    exact Ents.cons h1 h2 ih
theorem alook_adel {α : Type} (xs : List (Bytes × α)) (k k' : Bytes) : alook (adel xs k) k' = if k = k' then none else alook xs k' := by
  unfold alook adel
  induction xs with
  | nil => simp
  | cons p xs ih =>
    by_cases e : p.1 = k
    · simp only [List.filter_cons, e, ne_eq, not_true_eq_false, decide_false, Bool.false_eq_true, if_false]
      rw [ih]
      by_cases e' : k = k'
      · simp [e']
      · simp [e', List.find?_cons, e]
    · simp only [List.filter_cons, e, ne_eq, not_false_eq_true, decide_true, if_true, List.find?_cons]
      by_cases e' : p.1 = k'
      · have : ¬ k = k' := fun h => e (e'.trans h.symm)
        simp [e', this]
      · simpa [e'] using ih
theorem adel_length {α : Type} (xs : List (Bytes × α)) (k : Bytes) : (adel xs k).length ≤ xs.length := List.length_filter_le _ _

theorem mem_alook {β : Type} {es : List (Bytes × β)} {k : Bytes} {v : β} (hn : (es.map (·.1)).Nodup) (h : (k, v) ∈ es) : alook es k = some v := by
  induction es with
  | nil => simp at h
  | cons p es ih =>
    simp only [List.map_cons, List.nodup_cons] at hn
    rcases List.mem_cons.1 h with rfl | h
    · simp [alook]
    · have hne : p.1 ≠ k := fun e => hn.1 (List.mem_map.2 ⟨_, h, e.symm⟩)
      have := ih hn.2 h
      simp only [alook, List.find?_cons, hne, decide_false] at this ⊢
      exact this
theorem mem_of_alook {β : Type} {es : List (Bytes × β)} {k : Bytes} {v : β} (h : alook es k = some v) : (k, v) ∈ es := by
  simp only [alook, Option.map_eq_some_iff] at h
  obtain ⟨p, hp, e⟩ := h
  have h1 := List.find?_some hp
  have h2 := List.mem_of_find?_eq_some hp
  simp at h1
  rw [← e, ← h1]
  exact h2
theorem alook_none_iff {β : Type} {es : List (Bytes × β)} {k : Bytes} : alook es k = none ↔ k ∉ es.map (·.1) := by
  simp only [alook, Option.map_eq_none_iff, List.find?_eq_none, List.mem_map, not_exists, not_and]
  constructor
  · intro h p hp e; exact (h p hp) (by simpa using e)
  · intro h p hp; simpa using h p hp

theorem MapIs.one {κ : Type} [DecidableEq κ] {E : KeyEnc κ} {w : World} {b : Nat} {es : List (κ × Value)} {T : TypeId} (h : MapIs E w b es) : ∀ x ∈ [b], ∀ cs fr, w.heap[x]? ≠ some (.cells cs T fr) := by
  intro x hx cs fr
  simp at hx
  subst hx
  exact h.ne_cells _ _ _
theorem Iter.nodup {κ : Type} [DecidableEq κ] {E : KeyEnc κ} {w : World} {b r : Nat} {es left : List (κ × Value)} (h : Iter E w r b es left) : (left.map (·.1)).Nodup := by
  have hn := h.map.nodup
  obtain ⟨a, c, s, h1, h2, h3, h4, h5⟩ := h
  have hsub : ((leftOf a s).toList.map (fun x => (x.key, x.val))).Sublist (a.toList.map fun x => (x.key, x.val)) := by
    unfold leftOf
    rw [Array.toList_filter]
    exact List.filter_sublist.map _
  rw [h5, h3] at hsub
  have hs2 := hsub.map Prod.fst
  simp only [List.map_map, Function.comp_def] at hs2
  have e : ∀ l : List (κ × Value), l.map (fun x => E.enc x.1) = (l.map (·.1)).map E.enc := fun l => by simp
  rw [e, e] at hs2
  have h6 : ((es.map (·.1)).map E.enc).Nodup := List.pairwise_map.2 (hn.imp fun h e => h (E.inj _ _ e))
  exact List.Pairwise.imp (S := fun a b => a ≠ b) (fun h e => h (by rw [e])) (List.pairwise_map.1 (hs2.nodup h6))

end Go.Proofs.YtbbfgbkbdhghbaaGreatDoor

set_option linter.unusedVariables false
set_option linter.unusedSimpArgs false
namespace Go.Proofs.YtbbfgbkbdhghbaaGreatDoor
open Go.RowKit

/-! ### a string's bytes, anew -/
def cvW (W : World) (k : Bytes) : World := Lib.bytesWorld W 5 (str k)
def cvV (W : World) (k : Bytes) : Value := .slice (some ⟨W.heap.size, 0, none⟩) k.length (grownCap W k.length 0 5)
theorem run_cvb (k : Bytes) (W : World) : (convert 9 63 (.string (str k))).run Tryz.prog W = .ok (.slice (some ⟨W.heap.size, 0, none⟩) k.length (grownCap W k.length 0 5)) (cvW W k) := by
  have := Lib.run_convert_string_bytes (P := Tryz.prog) W 9 63 5 (str k) Tryz.underlying9 Tryz.underlying63 Tryz.underlying5
  rw [str_size] at this
  exact this
theorem cv_ext (k : Bytes) (W : World) : Ext [] W (cvW W k) := Ext.of_below (Lib.bytesWorld_below W 5 (str k))
theorem cv_bs (k : Bytes) (W : World) (hl : k.length ≤ 4294967296) : Bs 5 (cvW W k) (.slice (some ⟨W.heap.size, 0, none⟩) k.length (grownCap W k.length 0 5)) k := by
  have hcap := grownCap_ge W k.length 0 5
  have hcap2 := grownCap_le_maxLen W k.length 0 5 (by unfold maxLen; omega)
  unfold maxLen at hcap2
  have hat := Lib.bytesWorld_at_new W 5 (str k)
  refine ⟨_, _, rfl, hcap, by omega, ?_⟩
  rcases Nat.eq_zero_or_pos k.length with h0 | h0
  · left
    exact ⟨h0, by rw [List.length_eq_zero_iff.1 h0]; rfl⟩
  · right
    refine ⟨h0, _, _, rfl, _, _, hat, ?_, ?_⟩
    · simp [Lib.bytesCells, str]
    · simp [Lib.bytesCells, str, bv, List.map_map, Function.comp_def]

/-! ### what was changed -/
def chP (was now : Tbl) (k : Bytes) : Option (Bytes × Bytes) := match tget now k with
  | some v => if tget was k = some v then none else some (k, v)
  | none => none
def chD (was now : Tbl) (k : Bytes) : Bool := (tget now k).isNone && (tget was k).isSome
def chPuts (was now : Tbl) : Tbl := now.filter fun p => decide (tget was p.1 ≠ some p.2)
def chDels (was now : Tbl) : List Bytes := (was.filter fun p => (tget now p.1).isNone).map (·.1)

theorem chP_key {was now : Tbl} {k : Bytes} {p : Bytes × Bytes} (h : chP was now k = some p) : p.1 = k ∧ tget now k = some p.2 ∧ tget was k ≠ some p.2 := by
  unfold chP at h
  split at h
  · rename_i v hv
    split at h
    · cases h
    · rename_i hw
      injection h with h
      subst h
      exact ⟨rfl, hv, hw⟩
  · cases h
theorem sorted_chP {was now : Tbl} {l : List Bytes} (hl : l.Pairwise (· < ·)) : Sorted (l.filterMap (chP was now)) := by
  unfold Sorted
  rw [List.pairwise_filterMap]
  refine hl.imp ?_
  intro a b hab p hp q hq
  rw [(chP_key hp).1, (chP_key hq).1]
  exact hab
theorem chP_all {was now : Tbl} (hn : Sorted now) {l : List Bytes} (hl : l.Pairwise (· < ·)) (hout : ∀ k, k ∉ l → tget now k = tget was k) : l.filterMap (chP was now) = chPuts was now := by
  refine Sorted.perm_eq ?_ (sorted_chP hl) (List.Pairwise.filter _ hn)
  unfold chPuts
  rw [List.perm_ext_iff_of_nodup (sorted_chP hl).nd (List.Pairwise.filter _ hn.nd)]
  rintro ⟨k, v⟩
  simp only [List.mem_filterMap, List.mem_filter, decide_eq_true_eq]
  constructor
  · rintro ⟨k', _, h⟩
    obtain ⟨h1, h2, h3⟩ := chP_key h
    simp at h1
    subst h1
    exact ⟨tget_mem h2, h3⟩
  · rintro ⟨h1, h2⟩
    have h1' := hn.mem_iff.1 h1
    refine ⟨k, ?_, ?_⟩
    · by_cases hk : k ∈ l
      · exact hk
      · rw [hout k hk] at h1'; exact absurd h1' h2
    · unfold chP
      rw [h1']; simp only [h2, if_false]
theorem chD_all {was now : Tbl} (hw : Sorted was) {l : List Bytes} (hl : l.Pairwise (· < ·)) (hout : ∀ k, k ∉ l → tget now k = tget was k) : l.filter (chD was now) = chDels was now := by
  have s1 : (l.filter (chD was now)).Pairwise (· < ·) := List.Pairwise.filter _ hl
  have s2 : (chDels was now).Pairwise (· < ·) := List.pairwise_map.2 (List.Pairwise.filter _ hw)
  have nd : ∀ l : List Bytes, l.Pairwise (· < ·) → l.Nodup := fun l h => h.imp fun h => blt_ne h
  refine List.Perm.eq_of_pairwise (le := fun (a b : Bytes) => a < b) (fun a b _ _ h1 h2 => absurd h2 (blt_asymm h1)) s1 s2 ?_
  rw [List.perm_ext_iff_of_nodup (nd _ s1) (nd _ s2)]
  intro k
  simp only [chDels, List.mem_filter, List.mem_map, chD, Bool.and_eq_true, Option.isNone_iff_eq_none]
  constructor
  · rintro ⟨_, h1, h2⟩
    obtain ⟨v, hv⟩ := Option.isSome_iff_exists.1 h2
    exact ⟨(k, v), ⟨tget_mem hv, h1⟩, rfl⟩
  · rintro ⟨⟨k', v⟩, ⟨h1, h2⟩, rfl⟩
    have h1' := hw.mem_iff.1 h1
    refine ⟨?_, h2, by simp [h1']⟩
    by_cases hk : k' ∈ l
    · exact hk
    · rw [hout k' hk, h1'] at h2; cases h2

theorem OwnP.rebase {base base' : Nat} {w : World} {r : Value} {l : Tbl} (h : OwnP base w r l) (hb : base' ≤ base) : OwnP base' w r l := by
  obtain ⟨hs, h2, h3⟩ := h
  exact ⟨hs, own_rebase h2 (fun b hb' => Nat.le_trans hb (own_fresh h2 b hb')), h3⟩
theorem OwnD.rebase {base base' : Nat} {w : World} {r : Value} {l : List Bytes} (h : OwnD base w r l) (hb : base' ≤ base) : OwnD base' w r l := by
  obtain ⟨hs, h2, h3⟩ := h
  exact ⟨hs, own_rebase h2 (fun b hb' => Nat.le_trans hb (own_fresh h2 b hb')), h3⟩
theorem own_apart {w : World} {b1 b2 T1 T2 k1 k2 n1 n2 : Nat} {v1 v2 : Value} {x1 x2 : List Value} (h1 : w.ownsRow b1 T1 k1 v1 n1 x1) (h2 : w.ownsRow b2 T2 k2 v2 n2 x2) (hT : T1 ≠ T2) : ∀ b, v1.ownBlock = some b → b ∉ v2.ownBlock.toList := by
  intro b hb hm
  obtain ⟨_, ⟨rfl, _⟩ | ⟨g, cap, cur, rfl, _, hg, _⟩⟩ := h1
  · simp [Value.ownBlock] at hb
  · simp [Value.ownBlock] at hb
    subst hb
    exact own_other h2 (U := T1) (fun e => hT e.symm) g hm cur (0, 0) hg
theorem OwnP.other {base : Nat} {w w' : World} {v1 v2 : Value} {l : Tbl} {b2 k2 n2 : Nat} {x2 : List Value} (h : OwnP base w v1 l) (ho : w.ownsRow b2 63 k2 v2 n2 x2) (e : Ext v2.ownBlock.toList w w') : OwnP base w' v1 l := by
  obtain ⟨hs, h2, h3⟩ := h
  exact OwnP.ext ⟨hs, h2, h3⟩ e (own_apart h2 ho (by decide)) (own_other ho (by decide))
theorem OwnD.other {base : Nat} {w w' : World} {v1 v2 : Value} {l : List Bytes} {b2 k2 n2 : Nat} {x2 : List Value} (h : OwnD base w v1 l) (ho : w.ownsRow b2 95 k2 v2 n2 x2) (e : Ext v2.ownBlock.toList w w') : OwnD base w' v1 l := by
  obtain ⟨hs, h2, h3⟩ := h
  exact OwnD.ext ⟨hs, h2, h3⟩ e (own_apart h2 ho (by decide)) (own_other ho (by decide))
end Go.Proofs.YtbbfgbkbdhghbaaGreatDoor
