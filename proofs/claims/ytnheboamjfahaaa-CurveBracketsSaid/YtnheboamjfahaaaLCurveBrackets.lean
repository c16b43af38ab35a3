/- The statement CurveBrackets, by the walk of the Go function: for every input the law returns true and leaves its arguments as they were. -/
import Derived.Test.YtnheboamjfahaaaRows
import Derived.WalkKit
import Derived.ProofKit
import Derived.OpenShut
import Derived.ShutString
import Derived.ChangeOld
import Derived.Below
import Derived.Lib.SmallJoins
import Derived.Test.YtnheboamjfahaaaWCurB
namespace Go.Proofs.Ytnheboamjfahaaa.curveBrackets
open Go.ChangeShapes Go.WideShapes Go.ChangeAt Go.RowKit
open Go.ChangeMaps (open_string shut_string)
open Go.Joins
set_option linter.unusedVariables false
set_option linter.unusedSimpArgs false

theorem own : ownKnob Try.prog.godebug = none := by kernel_rfl
theorem laidOut : laidOutB Try.prog = true := by kernel_rfl

set_option maxRecDepth 100000 in
theorem lifted (os : Os) (started : os.Started) (H : Type) (enc : TypeId × Value → H) :
    ReturnsInHanded {} Try.checked os 4 .any (Rows.curveBracketsSpec.pre6 enc Try.prog Try.f4 Rows.curveBracketsRow.domain false) (Rows.curveBracketsSpec.post enc Try.prog Try.f4 false true false false) := by
  refine returnsInHanded_of_change (C := Try.checked) own started (by kernel_rfl) Try.func4
    (ChangeSpec.witness6 (enc := enc) (C := Try.checked) false ⟨#[], #[.agg #[.int .i64 0, .int .i64 0, .int .i64 0], .agg #[.int .i64 0, .int .i64 0, .bool false], .agg #[.int .i64 0, .int .i64 0, .bool false], .agg #[.int .i64 0, .int .i64 0, .bool false]], []⟩ 8 (by kernel_rfl) (by kernel_rfl) (by kernel_rfl) (by kernel_rfl)) ?_
  intro W base args ds gs before hval0 hW _ _
  have hval : ∀ (j : Nat) t v, Try.f4.params[j]? = some t → args[j]? = some v → Value.okWide Try.prog W .any base t v := hval0
  have hW' := hW
  obtain ⟨p, q, hA0, hV, rfl, hfz, hnd⟩ := hW
  have hA : DataW.TrodAll enc Try.prog W 0 (fun _ => true) true Try.f4.params.toList args.toList ds p := hA0
  rw [Try.params4] at hA hval
  obtain ⟨v0, vs0, d0, ds0, p0, q0, hargs, rfl, rfl, h0, r0⟩ := trodAll_cons hA
  obtain ⟨v1, vs1, d1, ds1, p1, q1, rfl, rfl, rfl, h1, r1⟩ := trodAll_cons r0
  obtain ⟨v2, vs2, d2, ds2, p2, q2, rfl, rfl, rfl, h2, r2⟩ := trodAll_cons r1
  obtain ⟨v3, vs3, d3, ds3, p3, q3, rfl, rfl, rfl, h3, r3⟩ := trodAll_cons r2
  obtain ⟨rfl, rfl, rfl⟩ := trodAll_nil r3
  obtain rfl : args = #[v0, v1, v2, v3] := by cases args; simp_all
  obtain ⟨rfl, rfl⟩ := trodVars_none hV
  have k0 := h0
  have lt0 : ∀ x ∈ p0, x.block < W.heap.size := by obtain ⟨m, hm⟩ := k0; exact DataW.trod_lt m _ _ _ hm
  obtain ⟨c00, c01, c02, y00, y01, y02, m0, rfl, rfl, hp0, hy00, hy01, hy02⟩ := open_agg3 Try.underlying23 (by kernel_rfl) (by kernel_rfl : Try.prog.cellsOf 23 = 3) (hval 0 23 v0 rfl rfl) h0
  obtain ⟨a0x, e00, rfl, w0x⟩ := DataW.trod_int Try.underlying2 hy00
  simp at e00; subst e00
  obtain ⟨a0y, e01, rfl, w0y⟩ := DataW.trod_int Try.underlying2 hy01
  simp at e01; subst e01
  obtain ⟨a0z, e02, rfl, w0z⟩ := DataW.trod_int Try.underlying2 hy02
  simp at e02; subst e02
  have k1 := h1
  have lt1 : ∀ x ∈ p1, x.block < W.heap.size := by obtain ⟨m, hm⟩ := k1; exact DataW.trod_lt m _ _ _ hm
  obtain ⟨c10, c11, c12, y10, y11, y12, m1, rfl, rfl, hp1, hy10, hy11, hy12⟩ := open_agg3 Try.underlying30 (by kernel_rfl) (by kernel_rfl : Try.prog.cellsOf 30 = 3) (hval 1 30 v1 rfl rfl) h1
  obtain ⟨a1x, e10, rfl, w1x⟩ := DataW.trod_int Try.underlying2 hy10
  simp at e10; subst e10
  obtain ⟨a1y, e11, rfl, w1y⟩ := DataW.trod_int Try.underlying2 hy11
  simp at e11; subst e11
  obtain ⟨a1z, e12, rfl⟩ := DataW.trod_bool Try.underlying4 hy12
  simp at e12; subst e12
  have k2 := h2
  have lt2 : ∀ x ∈ p2, x.block < W.heap.size := by obtain ⟨m, hm⟩ := k2; exact DataW.trod_lt m _ _ _ hm
  obtain ⟨c20, c21, c22, y20, y21, y22, m2, rfl, rfl, hp2, hy20, hy21, hy22⟩ := open_agg3 Try.underlying30 (by kernel_rfl) (by kernel_rfl : Try.prog.cellsOf 30 = 3) (hval 2 30 v2 rfl rfl) h2
  obtain ⟨a2x, e20, rfl, w2x⟩ := DataW.trod_int Try.underlying2 hy20
  simp at e20; subst e20
  obtain ⟨a2y, e21, rfl, w2y⟩ := DataW.trod_int Try.underlying2 hy21
  simp at e21; subst e21
  obtain ⟨a2z, e22, rfl⟩ := DataW.trod_bool Try.underlying4 hy22
  simp at e22; subst e22
  have k3 := h3
  have lt3 : ∀ x ∈ p3, x.block < W.heap.size := by obtain ⟨m, hm⟩ := k3; exact DataW.trod_lt m _ _ _ hm
  obtain ⟨c30, c31, c32, y30, y31, y32, m3, rfl, rfl, hp3, hy30, hy31, hy32⟩ := open_agg3 Try.underlying30 (by kernel_rfl) (by kernel_rfl : Try.prog.cellsOf 30 = 3) (hval 3 30 v3 rfl rfl) h3
  obtain ⟨a3x, e30, rfl, w3x⟩ := DataW.trod_int Try.underlying2 hy30
  simp at e30; subst e30
  obtain ⟨a3y, e31, rfl, w3y⟩ := DataW.trod_int Try.underlying2 hy31
  simp at e31; subst e31
  obtain ⟨a3z, e32, rfl⟩ := DataW.trod_bool Try.underlying4 hy32
  simp at e32; subst e32
  clear hA0 hval0
  refine (WCurveBrackets a0x a0y a0z a1x a1y a1z a2x a2y a2z a3x a3y a3z W w0x w0y w0z w1x w1y w2x w2y w3x w3y).mono fun e W' ⟨he, bel⟩ => ?_
  subst he
  exact ⟨_, rfl, _, _, _, [], _, [], hW', trodAll_mk1 (shut_bool Try.underlying4 _), (trodAll_cons_mk (Below.trod laidOut (by kernel_rfl) (of_decide_eq_true (by kernel_rfl)) k0 bel lt0) (trodAll_cons_mk (Below.trod laidOut (by kernel_rfl) (of_decide_eq_true (by kernel_rfl)) k1 bel lt1) (trodAll_cons_mk (Below.trod laidOut (by kernel_rfl) (of_decide_eq_true (by kernel_rfl)) k2 bel lt2) (trodAll_cons_mk (Below.trod laidOut (by kernel_rfl) (of_decide_eq_true (by kernel_rfl)) k3 bel lt3) trodAll_mk0)))), rfl, bel.frame _, fun h => by cases h⟩

theorem over : Rows.curveBracketsRow.holds Try.pinned (OpenSpec.ofChange Rows.curveBracketsSpec) :=
  OpenClaim.holds_of_wide 4 Try.f4 rfl rfl rfl rfl rfl rfl rfl ⟨rfl, rfl, rfl, rfl, rfl⟩ rfl rfl rfl rfl rfl (by kernel_rfl) Try.func4 (by kernel_rfl)
    (of_decide_eq_true (by kernel_rfl)) (by unfold Func.isWrapper; first | (rw [if_pos (by decide +kernel)]; kernel_rfl) | (rw [if_neg (by decide +kernel)]; exact ⟨rfl, rfl⟩))
    (fun os started H enc _ => lifted os started H enc)

theorem proved : Rows.CurveBracketsSaid := over
end Go.Proofs.Ytnheboamjfahaaa.curveBrackets
