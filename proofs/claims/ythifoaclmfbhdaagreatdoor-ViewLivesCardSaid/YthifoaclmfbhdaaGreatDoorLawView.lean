/-
  exchequerlaw14.awake and ViewNobody answer true.
-/
import Derived.Test.YthifoaclmfbhdaaGreatDoorNobody
import Derived.Lib.SlBytesConst
set_option linter.unusedVariables false
set_option linter.unusedSimpArgs false
namespace Go.Proofs.YthifoaclmfbhdaaGreatDoor
open Go.RowKit

def kA : Bytes := [97]
def vX : Bytes := [120]

theorem lit1 (w : World) (b : UInt8) (m : Nat) (hm : m = w.heap.size) : Bs 5 (w.alloc (.cells #[bv b] 5 (1, 2))) (.slice (some ⟨m, 0, none⟩) 1 1) [b] := by
  subst hm
  refine ⟨_, _, rfl, Nat.le_refl _, by decide, .inr ⟨Nat.zero_lt_one, _, _, rfl, _, _, heap_alloc_new w _, by simp, by simp⟩⟩
theorem cv_lit (m : Nat) (v : Value) (w : World) (hm : m = w.heap.size) : (convert 22 22 (.slice (some ⟨m, 0, none⟩) 1 1)).run Tryz.prog (w.alloc (.cells #[v] 5)) = .ok (.slice (some ⟨m, 0, none⟩) 1 1) (w.alloc (.cells #[v] 5 (1, 2))) := by
  subst hm
  exact Lib.run_convert_bytes_const (P := Tryz.prog) w 22 5 #[v] 1 1 Tryz.underlying22 Tryz.underlying5

def T1 : Tbl := [([97], [120])]
theorem T1_get : tget T1 [97] = some [120] := by decide
theorem T1_del : tdel T1 [97] = [] := by decide
theorem T1_dels : chDels T1 [] = [[97]] := by decide

theorem view_awake (w : World) : Calls Tryz.prog 13 #[] w fun e w' => e = .returned (.bool true) ∧ Ext [] w w' := by
  have hcv := cv_lit
  go_enter Tryz.func13, Tryz.ntmps13
  iterate 20 (first | at_builtin | go_step | skip)
  go_at_call 14
  refine (view_New w).mono ?_
  rintro e w1 ⟨V, rfl, h1, x1, hV⟩
  dsimp only
  iterate 60 (first | at_builtin | go_step | skip)
  have xa := (Ext.refl [] w1).alloc (.cells #[.int .u8 97] 5 (1, 2))
  have xb := xa.alloc (.cells #[.int .u8 120] 5 (1, 2))
  have la := (lit1 w1 97 _ rfl).then ((Ext.refl [] _).alloc (.cells #[.int .u8 120] 5 (1, 2)))
  have lb := lit1 (w1.alloc (.cells #[.int .u8 97] 5 (1, 2))) 120 (w1.heap.size + 1) (by simp)
  go_at_call 8
  refine (view_Put (h1.then xb) _ _ [97] [120] (StayV.of la (h1.then xb)) lb ⟨by decide, by decide, by decide⟩).mono ?_
  rintro e w2 ⟨rfl, h2, x2⟩
  clear la lb
  change IsView w2 V 1 [] T1 at h2
  dsimp only
  iterate 60 (first | at_builtin | go_step | skip)
  go_at_call 11
  refine (view_Commit h2 (by decide)).mono ?_
  rintro e w3 ⟨rfl, h3, x3⟩
  dsimp only
  iterate 60 (first | at_builtin | go_step | skip)
  have xc := (Ext.refl [] w3).alloc (.cells #[.int .u8 97] 5 (1, 2))
  go_at_call 9
  refine (view_Delete (h3.then xc) _ [97] [120] (lit1 w3 97 _ rfl) T1_get).mono ?_
  rintro e w4 ⟨rfl, h4, x4⟩
  rw [T1_del] at h4
  dsimp only
  iterate 100 (first | at_builtin | go_step | skip)
  have xd := (Ext.refl [] w4).alloc (.cells #[.int .u8 97] 5 (1, 2))
  go_at_call 5
  refine (view_Get (h4.then xd) _ [97] (lit1 w4 97 _ rfl)).mono ?_
  rintro e w5 ⟨r5, rfl, _, x5⟩
  have e5 : (tget [] ([97] : Bytes)).isSome = false := rfl
  rw [e5]
  dsimp only
  iterate 60 (first | at_builtin | go_step | skip)
  have h5 := (h4.then xd).then x5
  go_at_call 6
  refine (view_Changes h5 (by decide)).mono ?_
  rintro e w6 ⟨r1, r2, rfl, _, ⟨hs, hd, _⟩, x6⟩
  rw [T1_dels] at hd
  obtain ⟨p6, c6, rfl, _, _⟩ := own_size hd
  dsimp only
  iterate 60 (first | at_builtin | go_step | skip)
  go_at_call 7
  refine (view_Abort (h5.then x6)).mono ?_
  rintro e w7 ⟨rfl, h7, x7⟩
  dsimp only
  iterate 60 (first | at_builtin | go_step | skip)
  have xe := (Ext.refl [] w7).alloc (.cells #[.int .u8 97] 5 (1, 2))
  go_at_call 5
  refine (view_Get (h7.then xe) _ [97] (lit1 w7 97 _ rfl)).mono ?_
  rintro e w8 ⟨r8, rfl, hr8, x8⟩
  rw [T1_get] at hr8 ⊢
  simp only [Option.isSome_some, Option.getD_some] at hr8 ⊢
  have h8 := (h7.then xe).then x8
  have hst := fun W hW => run_str (P := Tryz.prog) (U := 5) (w := W) (v := r8) (l := [120]) Tryz.underlying22 Tryz.underlying5 Tryz.underlying9 hW
  have hst8 := hst w8 hr8.bs
  clear hst
  iterate 100 (first | at_builtin | go_step | skip)
  go_at_call 12
  refine (view_Err h8).mono ?_
  rintro e w9 ⟨rfl, rfl⟩
  dsimp only
  iterate 60 (first | at_builtin | go_step | skip)
  go_ret
  have st : ∀ {wa wb : World}, Ext [] w wa → Ext V.M wa wb → Ext [] w wb := fun h h' => h.trans h' (fun b hb hlt => absurd hlt (Nat.not_lt.2 (hV b hb)))
  exact ⟨rfl, (st (((st ((st (st (x1.then xb) x2) x3).then xc) x4).then xd).then (x5.then x6)) x7).then (xe.then x8)⟩

theorem law_ViewNobody (w : World) (k v : Value) : Calls Tryz.prog 3 #[k, v] w fun e w' => e = .returned (.bool true) ∧ Ext [] w w' := by
  have xz := (Ext.refl [] w).alloc (.cells #[.map none, .pointer none, .map none, .int .i64 0] 30)
  have n0 : ∀ W, NoView W (.pointer none) := fun W => .inl rfl
  have nz : ∀ W, Ext [] (w.alloc (.cells #[.map none, .pointer none, .map none, .int .i64 0] 30)) W → NoView W (.pointer (some ⟨w.heap.size, 0, none⟩)) := fun W x => .inr ⟨_, rfl, x.cell (by simp) (by simp only [World.cell?, heap_alloc_new]; rfl)⟩
  have hz := nz _ (Ext.refl [] _)
  go_enter Tryz.func3, Tryz.ntmps3
  iterate 60 (first | at_builtin | go_step | skip)
  go_at_call 5
  refine (no_Get (n0 _) _).mono ?_
  rintro e w' ⟨rfl, rfl⟩
  dsimp only
  iterate 60 (first | at_builtin | go_step | skip)
  go_at_call 5
  refine (no_Get hz _).mono ?_
  rintro e w' ⟨rfl, rfl⟩
  dsimp only
  iterate 60 (first | at_builtin | go_step | skip)
  go_at_call 6
  refine (no_Changes (n0 _)).mono ?_
  rintro e w' ⟨rfl, rfl⟩
  dsimp only
  iterate 60 (first | at_builtin | go_step | skip)
  go_at_call 7
  refine (no_Abort (n0 _)).mono ?_
  rintro e w' ⟨rfl, rfl⟩
  dsimp only
  iterate 60 (first | at_builtin | go_step | skip)
  go_at_call 7
  refine (no_Abort hz).mono ?_
  rintro e w' ⟨rfl, rfl⟩
  dsimp only
  iterate 60 (first | at_builtin | go_step | skip)
  go_at_call 8
  refine (no_Put (n0 _) _ _).mono ?_
  rintro e w' ⟨rfl, rfl⟩
  dsimp only
  iterate 60 (first | at_builtin | go_step | skip)
  go_at_call 8
  refine (no_Put hz _ _).mono ?_
  rintro e w' ⟨rfl, rfl⟩
  dsimp only
  iterate 60 (first | at_builtin | go_step | skip)
  go_at_call 9
  refine (no_Delete (n0 _) _).mono ?_
  rintro e w' ⟨rfl, rfl⟩
  dsimp only
  iterate 60 (first | at_builtin | go_step | skip)
  go_at_call 10
  refine (no_Scan (n0 _) _).mono ?_
  rintro e w1 ⟨rfl, x1⟩
  have hz1 := hz.then x1
  dsimp only
  iterate 60 (first | at_builtin | go_step | skip)
  go_at_call 10
  refine (no_Scan hz1 _).mono ?_
  rintro e w2 ⟨rfl, x2⟩
  have hz2 := hz1.then x2
  dsimp only
  iterate 100 (first | at_builtin | go_step | skip)
  go_at_call 11
  refine (no_Commit (n0 _)).mono ?_
  rintro e w' ⟨rfl, rfl⟩
  dsimp only
  iterate 60 (first | at_builtin | go_step | skip)
  go_at_call 12
  refine (no_Err hz2).mono ?_
  rintro e w' ⟨rfl, rfl⟩
  dsimp only
  iterate 60 (first | at_builtin | go_step | skip)
  go_at_call 13
  refine (view_awake _).mono ?_
  rintro e w3 ⟨rfl, x3⟩
  dsimp only
  iterate 60 (first | at_builtin | go_step | skip)
  go_ret
  exact ⟨rfl, ((xz.then x1).then x2).then x3⟩
end Go.Proofs.YthifoaclmfbhdaaGreatDoor
