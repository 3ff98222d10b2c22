/-
  append, copy and make, as a walk meets them: plain laws.
-/
import Derived.Test.YtbbfgbkbdhghbaaGreatDoorBase
import Derived.Maps.AppendAt
import Derived.Laws.CopyOwn
import Derived.Laws.MakeOwn
set_option linter.unusedVariables false
set_option linter.unusedSimpArgs false
set_option linter.unusedSectionVars false
namespace Go.Proofs.YtbbfgbkbdhghbaaGreatDoor
open Go.RowKit

/-- the row of a type in the program's table -/
def TRow (P : Program) (e : TypeId) (z : Value) (k bytes : Nat) : Prop := (P.info? e).map (fun i => (i.zero, i.size, i.bytes)) = some (some z, k, bytes) ∧ z.cells.size = k

section
variable {P : Program} {ops : Array Oper} {rest : List Oper} {o : Oper} {a : Act} {Q : Exit → Act → World → Prop} {w : World}

theorem TRow.parts {e : TypeId} {z : Value} {k bytes : Nat} (h : TRow P e z k bytes) : ∃ i, P.info? e = some i ∧ i.zero = some z ∧ i.size = k ∧ i.bytes = bytes ∧ z.cells.size = k := by
  obtain ⟨h, hz⟩ := h
  obtain ⟨i, hi, he⟩ := Option.map_eq_some_iff.1 h
  simp only [Prod.mk.injEq] at he
  exact ⟨i, hi, he.1, he.2.1, he.2.2, hz⟩

theorem add_off (b off j : Nat) : (⟨b, off, none⟩ : Addr).add j = ⟨b, off + j, none⟩ := by unfold Addr.add; split <;> simp_all

theorem Sl.cells_add {T : TypeId} {b off n c : Nat} {xs : List Value} (h : Row w T b off xs) : ∀ j u, xs[j]? = some u → w.cell? ((⟨b, off, none⟩ : Addr).add j) = some u := by
  intro j u hj
  rw [add_off]
  exact h.cell hj

theorem own_size {base e k n : Nat} {v : Value} {xs : List Value} (h : w.ownsRow base e k v n xs) : ∃ p c, v = .slice p n c ∧ n ≤ c ∧ c ≤ 9223372036854775807 := by
  obtain ⟨_, ⟨rfl, rfl⟩ | ⟨g, cap, cur, rfl, _, _, h1, h2, _⟩⟩ := h
  · exact ⟨none, 0, rfl, Nat.le_refl _, by omega⟩
  · exact ⟨_, cap, rfl, h1, by unfold maxLen at h2; omega⟩

/-- nothing is appended -/
theorem run_append_zero (t ty e : TypeId) (i : TypeInfo) (ht : P.underlying t = some (.slice e)) (hi : P.info? e = some i) (p q : Option Addr) (n c c' : Nat) (hn : n ≤ c) (w : World) {k : Nat} (hsz : i.size = k)
    (hq : q = none ∨ True) : (Builtin.append_ #[t, t] ty #[.slice p n c, .slice q 0 c']).run P w = .ok (.slice p n c) w := by
  have h0 : (Builtin.firstCells i.size 0 (.slice q 0 c')).run P w = .ok #[] w := by
    cases q <;> simp [Builtin.firstCells, loadCells, loadCellsFrom]
  cases p with
  | none => simp [Builtin.append_, run_underlying ht, sizeOf, typeInfo, hi, Builtin.lenOf, hn, h0]
  | some a => simp [Builtin.append_, run_underlying ht, sizeOf, typeInfo, hi, Builtin.lenOf, hn, h0, storeCells]

theorem wp_append (hgd : o.guard = none) (s x : Operand) (t : TypeId) (ho : o.op = .call { callee := .builtin .append, args := #[s, x], argTypes := #[t, t] })
    (base e : TypeId) (z : Value) (k bytes : Nat) (ht : P.underlying t = some (.slice e)) (hr : TRow P e z k bytes) (hk : 0 < k)
    (v : Value) (n : Nat) (xs : List Value) (hs : a.eval s = v) (hown : w.ownsRow base e k v n xs)
    (T : TypeId) (sv : Value) (m : Nat) (ys : List Value) (hx : a.eval x = sv) (hsl : Sl w T sv m ys) (hl : ys.length = m * k) (h1 : ∀ u ∈ ys, u.oneCell' = true)
    (hn : (n + m) * bytes ≤ 140737488355328) (h63 : n + m ≤ 9223372036854775807) (hbase : base ≤ w.heap.size)
    (h : ∀ v' w', w'.ownsRow base e k v' (n + m) (xs ++ ys) → w.grownBy w' v.ownBlock → (v'.ownBlock = v.ownBlock ∨ v'.ownBlock = some w.heap.size) → wpList P ops Q rest (a.put o.dst v') w') :
    wpList P ops Q (o :: rest) a w := by
  obtain ⟨i, hi, hz, hsz, hby, hzs⟩ := hr.parts
  rcases Nat.eq_zero_or_pos m with rfl | hm
  · obtain ⟨p', c', rfl, _, _⟩ := hsl.shape
    obtain ⟨p, c, hv, hnc, _⟩ := own_size hown
    have hy : ys = [] := List.eq_nil_of_length_eq_zero (by simpa using hl)
    subst hy
    refine wpList_plain hgd fun K hK => ?_
    have hrun := run_append_zero (P := P) (k := k) t o.type e i ht hi p p' n c c' hnc w hsz (.inr trivial)
    rw [← hv] at hrun
    unfold Oper.wp execOp
    simp only [ho, resolve, invoke, builtin, Sem.run_bind, Sem.run_pure, Result.andThen_ok, List.map_toArray, List.map_cons, List.map_nil, hs, hx, hrun]
    exact hK _ _ (h v w (by simpa using hown) ⟨rfl, rfl, rfl, Nat.le_refl _, fun _ _ _ => rfl⟩ (.inl rfl))
  · obtain ⟨b, off, c, rfl, hrow⟩ := hsl.at hm
    exact wpList_append_own_at w hgd s x t ho base e i z k bytes ht hi hz hsz hby hzs hk v n xs hs hown ⟨b, off, none⟩ m c ys hx hl (Sl.cells_add (n := 0) (c := 0) hrow) h1 (by unfold maxLen; omega) hn hbase
      fun v' w' a1 a2 _ a4 => h v' w' a1 a2 a4

/-- copy(dst, src), dst one's own -/
theorem wp_copy (hgd : o.guard = none) (d s : Operand) (dT sT : TypeId) (ho : o.op = .call { callee := .builtin .copy, args := #[d, s], argTypes := #[dT, sT] })
    (e : TypeId) (hu : P.underlying dT = some (.slice e)) (hsz : (P.info? e).map (·.size) = some 1)
    (base : Nat) (v : Value) (n : Nat) (xs : List Value) (hd : a.eval d = v) (hown : w.ownsRow base e 1 v n xs)
    (T : TypeId) (sv : Value) (m : Nat) (ys : List Value) (hs : a.eval s = sv) (hsl : Sl w T sv m ys) (hl : ys.length = m) (h1 : ∀ u ∈ ys, u.oneCell' = true)
    (h : ∀ w', w'.ownsRow base e 1 v n (ys.take n ++ xs.drop m) → w.grownBy w' v.ownBlock → wpList P ops Q rest (a.put o.dst (goInt (Nat.min m n : Nat))) w') :
    wpList P ops Q (o :: rest) a w := by
  have hxl := hown.1
  rw [Nat.mul_one] at hxl
  rcases Nat.eq_zero_or_pos (Nat.min m n) with h0 | hpos
  · obtain ⟨p', c', rfl, _, _⟩ := hsl.shape
    obtain ⟨p, c, rfl, _, _⟩ := own_size hown
    refine wpList_copy_nothing hgd d s dT sT ho e hu hsz p p' n c m c' hd hs h0 ?_
    have e1 : ys.take n ++ xs.drop m = xs := by
      rcases Nat.eq_zero_or_pos m with rfl | hm
      · have : ys = [] := List.eq_nil_of_length_eq_zero hl
        subst this; simp
      · have : n = 0 := by
          have := h0; simp only [Nat.min_def] at this; split at this <;> omega
        subst this
        have : xs = [] := List.eq_nil_of_length_eq_zero hxl
        subst this; simp
    have := h w (by rw [e1]; exact hown) ⟨rfl, rfl, rfl, Nat.le_refl _, fun _ _ _ => rfl⟩
    rwa [h0] at this
  · have hm : 0 < m := by have := hpos; simp only [Nat.min_def] at this; split at this <;> omega
    have hnp : 0 < n := by have := hpos; simp only [Nat.min_def] at this; split at this <;> omega
    obtain ⟨b, off, c, rfl, hrow⟩ := hsl.at hm
    obtain ⟨hlen, ⟨rfl, h0⟩ | ⟨g, cap, cur, rfl, hbg, hg, hnc, hcm, hcs, htake⟩⟩ := hown
    · omega
    have hcl : (ys.take n).length = Nat.min m n := by rw [List.length_take, hl, Nat.min_comm]
    have hmn : Nat.min m n ≤ n := Nat.min_le_right _ _
    refine wpList_copy_own hgd d s dT sT ho e hu hsz g 0 n cap ⟨b, off, none⟩ m c hd hs cur e hg (ys.take n) hcl (fun j u hj => ?_) (by omega) (fun u hu => h1 u (List.mem_of_mem_take hu)) ?_
    · refine Sl.cells_add (n := 0) (c := 0) hrow j u ?_
      rw [List.getElem?_take] at hj
      split at hj
      · exact hj
      · simp at hj
    · rw [hcl]
      simp only [List.take_zero, List.nil_append, Nat.zero_add]
      refine h _ ⟨?_, .inr ⟨g, cap, _, rfl, hbg, setRow_heap w g _ _ e _ hg, hnc, hcm, ?_, ?_⟩⟩ ⟨rfl, rfl, rfl, by simp [World.setRow], fun k hk hne => setRow_other w g k _ (fun e => hne (by simp [Value.ownBlock, e]))⟩
      · rw [List.length_append, hcl, List.length_drop, hxl, Nat.mul_one]
        have : Nat.min m n = min m n := rfl
        omega
      · have : Nat.min m n = min m n := rfl
        simp only [List.size_toArray, List.length_append, hcl, List.length_drop, Array.length_toList]
        omega
      · have hmin : Nat.min m n = min m n := rfl
        simp only [Nat.mul_one] at htake ⊢
        rw [List.take_append, List.take_of_length_le (by omega)]
        congr 1
        rw [hcl, ← htake, List.drop_take, List.take_drop, List.take_drop]
        rcases Nat.le_total m n with hle | hle
        · have : Nat.min m n = m := Nat.min_eq_left hle
          rw [this]
        · have : Nat.min m n = n := Nat.min_eq_right hle
          rw [this, Nat.sub_self, Nat.add_zero]
          have e2 : m + (n - m) = m := by omega
          rw [e2]
          simp [List.drop_eq_nil_of_le, hle]

/-- the cells of a new row (a name of its own: simp doesn't look into it) -/
def zeroRow (z : Value) (k n : Nat) : Array Value := madeCells z.cells (n * k)
/-- make([]T, n, c) -/
theorem run_mk {t e : TypeId} {z : Value} {k bytes : Nat} (ht : P.underlying t = some (.slice e)) (hr : TRow P e z k bytes) (n c : Nat) (hnc : n ≤ c) (hb : c * bytes ≤ 281474976710656) (h63 : c ≤ 9223372036854775807) (W : World) :
    (Instr.makeSlice t (.int .i64 (n : Int)) (.int .i64 (c : Int))).run P W = .ok (.slice (some ⟨W.heap.size, 0, none⟩) n c) (W.alloc (.cells (zeroRow z k c) e)) := by
  obtain ⟨i, hi, hz, hsz, hby, hzs⟩ := hr.parts
  have h := run_make (P := P) W t e i z ht hi hz .i64 .i64 (n : Int) (c : Int) (by omega) (by omega) (by
    have : ((i.bytes * c : Nat) : Int) ≤ 281474976710656 := by rw [hby, Nat.mul_comm]; omega
    rwa [Int.natCast_mul] at this) (by omega)
  simp only [Int.toNat_natCast, hsz] at h
  exact h
theorem madeCells_one (z : Value) (n : Nat) : (madeCells #[z] n).toList = List.replicate n z := by
  apply List.ext_getElem?
  intro i
  simp only [madeCells, Array.toList_map, List.getElem?_map, Array.getElem?_toList, List.getElem?_replicate]
  by_cases hi : i < n
  · simp [hi, Nat.mod_one]
  · simp [hi]
theorem own_mk {base e : TypeId} {z : Value} (h1 : z.cells = #[z]) (n c : Nat) (hnc : n ≤ c) (h63 : c ≤ 9223372036854775807) (W : World) (hb : base ≤ W.heap.size) :
    (W.alloc (.cells (zeroRow z 1 c) e)).ownsRow base e 1 (.slice (some ⟨W.heap.size, 0, none⟩) n c) n (List.replicate n z) := by
  refine ⟨by simp, .inr ⟨W.heap.size, c, _, rfl, hb, heap_alloc_new W _, hnc, by unfold maxLen; omega, by rw [zeroRow, size_madeCells], ?_⟩⟩
  rw [zeroRow, h1, madeCells_one, Nat.mul_one, Nat.mul_one, List.take_replicate]
  congr 1
  omega

/-- a literal's row -/
theorem own_lit (base e k : Nat) (cs : Array Value) (n : Nat) (hs : cs.size = n * k) (W : World) (hb : base ≤ W.heap.size) (h63 : n ≤ 9223372036854775807) :
    (W.alloc (.cells cs e)).ownsRow base e k (.slice (some ⟨W.heap.size, 0, none⟩) n n) n cs.toList := by
  refine ⟨by simpa using hs, .inr ⟨W.heap.size, n, cs, rfl, hb, heap_alloc_new W _, Nat.le_refl _, by unfold maxLen; omega, hs, ?_⟩⟩
  rw [List.take_of_length_le]
  simp [hs]
theorem Sl.lit (e k : Nat) (cs : Array Value) (n : Nat) (hk : 0 < k) (hs : cs.size = n * k) (W : World) (h63 : n ≤ 9223372036854775807) :
    Sl (W.alloc (.cells cs e)) e (.slice (some ⟨W.heap.size, 0, none⟩) n n) n cs.toList := Sl.of_own (own_lit W.heap.size e k cs n hs W (Nat.le_refl _) h63) hk

theorem own_nil (W : World) (base e k : Nat) : W.ownsRow base e k (.slice none 0 0) 0 [] := World.ownsRow_nil W base e k
/-- what one owns lies where it does -/
theorem own_fresh {base e k n : Nat} {v : Value} {xs : List Value} (h : w.ownsRow base e k v n xs) : ∀ b, v.ownBlock = some b → base ≤ b := fun b hb => (h.lt b hb).1
theorem own_ext {base e k n : Nat} {v : Value} {xs : List Value} {M : List Nat} {w' : World} (h : w.ownsRow base e k v n xs) (x : Ext M w w') (hm : ∀ b, v.ownBlock = some b → b ∉ M) : w'.ownsRow base e k v n xs := by
  refine ⟨h.1, ?_⟩
  rcases h.2 with hn | ⟨g, cap, cur, rfl, hb, hg, r⟩
  · exact .inl hn
  · exact .inr ⟨g, cap, cur, rfl, hb, (x.block g (Array.getElem?_eq_some_iff.1 hg).1 (hm g rfl)).trans hg, r⟩
theorem own_then {base e k n : Nat} {v : Value} {xs : List Value} {w' : World} (h : w.ownsRow base e k v n xs) (x : Ext [] w w') : w'.ownsRow base e k v n xs := own_ext h x (by simp)
theorem own_rebase {base base' e k n : Nat} {v : Value} {xs : List Value} (h : w.ownsRow base e k v n xs) (hb : ∀ b, v.ownBlock = some b → base' ≤ b) : w.ownsRow base' e k v n xs := by
  refine ⟨h.1, ?_⟩
  rcases h.2 with hn | ⟨g, cap, cur, rfl, hb', hg, r⟩
  · exact .inl hn
  · exact .inr ⟨g, cap, cur, rfl, hb g rfl, hg, r⟩
/-- a read slice while another row of another type is written -/
theorem Sl.grown {T e base k n m : Nat} {v sv : Value} {xs ys : List Value} {w' : World} (h : Sl w T sv m ys) (hown : w.ownsRow base e k v n xs) (hg : w.grownBy w' v.ownBlock) (hne : T ≠ e) : Sl w' T sv m ys := by
  have x : Ext v.ownBlock.toList w w' := (Ext.refl _ w).grown hg (fun k hk _ => by simp [hk])
  refine h.ext x fun b hb cs fr hh => ?_
  obtain ⟨_, ⟨rfl, _⟩ | ⟨g, cap, cur, rfl, _, hg', _⟩⟩ := hown
  · simp [Value.ownBlock] at hb
  · simp [Value.ownBlock] at hb
    subst hb
    rw [hg'] at hh
    injection hh with hh
    injection hh with _ hh _
    exact hne hh.symm
/-- a read slice that lies below what is written -/
theorem Sl.grown_below {T m B : Nat} {v sv : Value} {ys : List Value} {w' : World} (h : Sl w T sv m ys) (hg : w.grownBy w' v.ownBlock) (hlt : ∀ b, sv.ownBlock = some b → b < B) (hb : ∀ b, v.ownBlock = some b → B ≤ b) : Sl w' T sv m ys := by
  obtain ⟨p, c, rfl, h1, h2, h | ⟨hn, b, off, rfl, h⟩⟩ := h
  · exact ⟨p, c, rfl, h1, h2, .inl h⟩
  · refine ⟨_, c, rfl, h1, h2, .inr ⟨hn, b, off, rfl, ?_⟩⟩
    have x : Ext v.ownBlock.toList w w' := (Ext.refl _ w).grown hg (fun k hk _ => by simp [hk])
    refine h.ext x fun hm => ?_
    have := hlt b rfl
    have := hb b (by simpa using hm)
    omega

/-! ### the laws as the walk meets them: the operation written out; what is evaluated comes last -/
section
variable {d : Option Tmp} {x y : Tmp} {t ty : TypeId} {pos : String} {after : Array Edge}

/-- append(own, read...) -/
theorem app {base e k bytes : Nat} {z : Value} (ht : P.underlying t = some (.slice e)) (hr : TRow P e z k bytes) (hk : 0 < k)
    {v : Value} {n : Nat} {xs : List Value} (hown : w.ownsRow base e k v n xs) {T : TypeId} {sv : Value} {m : Nat} {ys : List Value} (hsl : Sl w T sv m ys)
    (hl : ys.length = m * k) (h1 : ∀ u ∈ ys, u.oneCell' = true) (hn : (n + m) * bytes ≤ 140737488355328) (h63 : n + m ≤ 9223372036854775807) (hbase : base ≤ w.heap.size)
    (hs : a.eval (.tmp x) = v) (hx : a.eval (.tmp y) = sv)
    (h : ∀ v' w', w'.ownsRow base e k v' (n + m) (xs ++ ys) → w.grownBy w' v.ownBlock → (v'.ownBlock = v.ownBlock ∨ v'.ownBlock = some w.heap.size) → wpList P ops Q rest (a.put d v') w') :
    wpList P ops Q (⟨d, .call ⟨.builtin .append, #[.tmp x, .tmp y], #[t, t]⟩, ty, pos, after, none⟩ :: rest) a w :=
  wp_append rfl (.tmp x) (.tmp y) t rfl base e z k bytes ht hr hk v n xs hs hown T sv m ys hx hsl hl h1 hn h63 hbase h

/-- append(own, x) of one element, which has just been laid -/
theorem app1 {base e k bytes : Nat} {z : Value} {W : World} {cs : Array Value} (ht : P.underlying t = some (.slice e)) (hr : TRow P e z k bytes) (hk : 0 < k)
    {v : Value} {n : Nat} {xs : List Value} (hown : W.ownsRow base e k v n xs)
    (hl : cs.size = k) (h1 : ∀ u ∈ cs.toList, u.oneCell' = true) (hn : (n + 1) * bytes ≤ 140737488355328) (h63 : n + 1 ≤ 9223372036854775807) (hbase : base ≤ W.heap.size)
    (hs : a.eval (.tmp x) = v) (hx : a.eval (.tmp y) = .slice (some ⟨W.heap.size, 0, none⟩) 1 1)
    (h : ∀ v' w', w'.ownsRow base e k v' (n + 1) (xs ++ cs.toList) → Ext v.ownBlock.toList W w' → (v'.ownBlock = v.ownBlock ∨ ∃ b, v'.ownBlock = some b ∧ W.heap.size ≤ b) → wpList P ops Q rest (a.put d v') w') :
    wpList P ops Q (⟨d, .call ⟨.builtin .append, #[.tmp x, .tmp y], #[t, t]⟩, ty, pos, after, none⟩ :: rest) a (W.alloc (.cells cs e)) := by
  refine app ht hr hk (hown.alloc _) (Sl.lit e k cs 1 hk (by omega) W (by omega)) (by simp [hl]) h1 hn h63 (by simp; omega) hs hx ?_
  intro v' w' a1 a2 a3
  refine h v' w' a1 ?_ ?_
  · exact ((Ext.refl _ W).alloc _).grown a2 (fun k hk _ => by simp [hk])
  · rcases a3 with a3 | a3
    · exact .inl a3
    · exact .inr ⟨_, a3, by simp⟩

/-- copy(own, read) -/
theorem cp {base e : Nat} {dT sT : TypeId} (hu : P.underlying dT = some (.slice e)) (hsz : (P.info? e).map (·.size) = some 1)
    {v : Value} {n : Nat} {xs : List Value} (hown : w.ownsRow base e 1 v n xs) {T : TypeId} {sv : Value} {m : Nat} {ys : List Value} (hsl : Sl w T sv m ys) (hl : ys.length = m) (h1 : ∀ u ∈ ys, u.oneCell' = true)
    (hd : a.eval (.tmp x) = v) (hs : a.eval (.tmp y) = sv)
    (h : ∀ w', w'.ownsRow base e 1 v n (ys.take n ++ xs.drop m) → Ext v.ownBlock.toList w w' → wpList P ops Q rest (a.put d (goInt (Nat.min m n : Nat))) w') :
    wpList P ops Q (⟨d, .call ⟨.builtin .copy, #[.tmp x, .tmp y], #[dT, sT]⟩, ty, pos, after, none⟩ :: rest) a w :=
  wp_copy rfl (.tmp x) (.tmp y) dT sT rfl e hu hsz base v n xs hd hown T sv m ys hs hsl hl h1 fun w' a1 a2 => h w' a1 ((Ext.refl _ w).grown a2 (fun k hk _ => by simp [hk]))
end

theorem bv_one (l : List UInt8) : ∀ u ∈ l.map bv, u.oneCell' = true := by
  intro u hu
  obtain ⟨b, _, rfl⟩ := List.mem_map.1 hu
  rfl
variable {d : Option Tmp} {y : Tmp} {t ty : TypeId} {pos : String} {after : Array Edge}
/-- append(nil, read...) -/
theorem app0 {base e k bytes : Nat} {z : Value} (ht : P.underlying t = some (.slice e)) (hr : TRow P e z k bytes) (hk : 0 < k)
    {T : TypeId} {sv : Value} {m : Nat} {ys : List Value} (hsl : Sl w T sv m ys)
    (hl : ys.length = m * k) (h1 : ∀ u ∈ ys, u.oneCell' = true) (hn : m * bytes ≤ 140737488355328) (h63 : m ≤ 9223372036854775807) (hbase : base ≤ w.heap.size)
    (hx : a.eval (.tmp y) = sv)
    (h : ∀ v' w', w'.ownsRow base e k v' m ys → Ext [] w w' → (∀ b, v'.ownBlock = some b → w.heap.size ≤ b) → wpList P ops Q rest (a.put d v') w') :
    wpList P ops Q (⟨d, .call ⟨.builtin .append, #[.const (.slice none 0 0), .tmp y], #[t, t]⟩, ty, pos, after, none⟩ :: rest) a w :=
  wp_append rfl (.const (.slice none 0 0)) (.tmp y) t rfl base e z k bytes ht hr hk (.slice none 0 0) 0 [] rfl (own_nil _ _ _ _) T sv m ys hx hsl hl h1 (by rw [Nat.zero_add]; exact hn) (by omega) hbase fun v' w' a1 a2 a3 =>
    h v' w' (by simpa using a1) ((Ext.refl [] w).grown a2 (by simp [Value.ownBlock])) (fun b hb => by
      rcases a3 with a3 | a3
      · rw [hb] at a3; simp [Value.ownBlock] at a3
      · rw [hb] at a3; injection a3 with a3; omega)
end
end Go.Proofs.YtbbfgbkbdhghbaaGreatDoor
