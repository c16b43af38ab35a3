/- The walk of CurveHasse. -/
import Derived.Test.YtnheboamjfahaaaCur6
import Derived.Test.YtnheboamjfahaaaHasM
import Derived.IntWalk
namespace Go.Proofs.Ytnheboamjfahaaa
open Go.RowKit
set_option linter.unusedVariables false
set_option linter.unusedSimpArgs false
set_option maxHeartbeats 1600000 in
theorem ch_no (p a b n x : Int) (w : World) (h : ¬ x = 0) (HC : ∀ w, Calls Try.prog 7 #[.agg #[.int .i64 p, .int .i64 a, .int .i64 b]] w fun e w' => e = .returned (.tuple #[.int .i64 n, .int .i64 x]) ∧ Below w.heap.size w w') (HK : ∀ w, Calls Try.prog 8 #[.agg #[.int .i64 p, .int .i64 a, .int .i64 b], .slice none 0 0] w fun e w' => e = .returned (.bool false) ∧ Below w.heap.size w w') :
    Calls Try.prog 3 #[.agg #[.int .i64 p, .int .i64 a, .int .i64 b]] w fun e w' => e = .returned (.bool true) ∧ Below w.heap.size w w' := by
  have e1 : (x == 0) = false := by simpa using h
  have e2 : (x != 0) = true := by simpa using h
  replace HC := Lib.hid HC
  replace HK := Lib.hid HK
  go_enter Try.func3, Try.ntmps3
  go_wp2_with fail
  refine (HC.out _).mono ?_
  rintro e w1 ⟨rfl, hb1⟩
  have z1 := hb1.size
  try simp at z1
  have hz1 := below_two ((Below.refl _ _).alloc (Nat.le_refl _) _) hb1
  have cc0 := kept hb1 (b := w.heap.size) (o := 0) (v := .int .i64 p) (by simp [go_sem]) (by simp [go_sem] <;> omega)
  have cc1 := kept hb1 (b := w.heap.size) (o := 1) (v := .int .i64 a) (by simp [go_sem]) (by simp [go_sem] <;> omega)
  have cc2 := kept hb1 (b := w.heap.size) (o := 2) (v := .int .i64 b) (by simp [go_sem]) (by simp [go_sem] <;> omega)
  clear hb1
  go_wp2_with fail
  refine (HK.out _).mono ?_
  rintro e w2 ⟨rfl, hb2⟩
  have hz2 := below_two hz1 hb2
  go_wp2
  go_ret
  exact ⟨rfl, hz2⟩
set_option maxHeartbeats 1600000 in
theorem ch_go (p a b n : Int) (w : World) (p5 : 5 ≤ p) (p1 : p ≤ 1009) (n1 : 1 ≤ n) (n2 : n ≤ 4096) (hn : (n - p - 1) * (n - p - 1) ≤ 4 * p) (HC : ∀ w, Calls Try.prog 7 #[.agg #[.int .i64 p, .int .i64 a, .int .i64 b]] w fun e w' => e = .returned (.tuple #[.int .i64 n, .int .i64 0]) ∧ Below w.heap.size w w') (HK : ∀ w, Calls Try.prog 8 #[.agg #[.int .i64 p, .int .i64 a, .int .i64 b], .slice none 0 0] w fun e w' => e = .returned (.bool true) ∧ Below w.heap.size w w') :
    Calls Try.prog 3 #[.agg #[.int .i64 p, .int .i64 a, .int .i64 b]] w fun e w' => e = .returned (.bool true) ∧ Below w.heap.size w w' := by
  replace HC := Lib.hid HC
  replace HK := Lib.hid HK
  go_enter Try.func3, Try.ntmps3
  go_wp2_with fail
  refine (HC.out _).mono ?_
  rintro e w1 ⟨rfl, hb1⟩
  have z1 := hb1.size
  try simp at z1
  have hz1 := below_two ((Below.refl _ _).alloc (Nat.le_refl _) _) hb1
  have cc0 := kept hb1 (b := w.heap.size) (o := 0) (v := .int .i64 p) (by simp [go_sem]) (by simp [go_sem] <;> omega)
  have cc1 := kept hb1 (b := w.heap.size) (o := 1) (v := .int .i64 a) (by simp [go_sem]) (by simp [go_sem] <;> omega)
  have cc2 := kept hb1 (b := w.heap.size) (o := 2) (v := .int .i64 b) (by simp [go_sem]) (by simp [go_sem] <;> omega)
  clear hb1
  go_wp2_with fail
  refine (HK.out _).mono ?_
  rintro e w2 ⟨rfl, hb2⟩
  have hz2 := below_two hz1 hb2
  have z2 := hb2.size
  replace cc0 := kept hb2 cc0 (by omega)
  replace cc1 := kept hb2 cc1 (by omega)
  replace cc2 := kept hb2 cc2 (by omega)
  clear hb2
  have e1 : IntKind.i64.wrap (n - p) = n - p := IntWalk.i64_in _ (by omega)
  have e2 : IntKind.i64.wrap (n - p - 1) = n - p - 1 := IntWalk.i64_in _ (by omega)
  have hg1 : -5000 ≤ n - p - 1 := by omega
  have hg2 : n - p - 1 ≤ 5000 := by omega
  obtain ⟨g, hg⟩ : ∃ g, n - p - 1 = g := ⟨_, rfl⟩
  have b1 : 0 ≤ g * g := by rcases Int.le_total 0 g with h | h; exact Int.mul_nonneg h h; exact Int.mul_nonneg_of_nonpos_of_nonpos h h
  rw [hg] at hn e2 hg1 hg2
  have e3 : IntKind.i64.wrap (g * g) = g * g := by
    generalize g * g = q at *
    exact IntWalk.i64_in _ (by omega)
  have e4 : IntKind.i64.wrap (4 * p) = 4 * p := IntWalk.i64_in _ (by omega)
  go_wp2
  go_ret
  exact ⟨rfl, hz2⟩
theorem WCurveHasse (a0x : Int) (a0y : Int) (a0z : Int) (w : World) (w0x : (Lit.int .i64 a0x).wf = true) (w0y : (Lit.int .i64 a0y).wf = true) (w0z : (Lit.int .i64 a0z).wf = true) :
    Calls Try.prog 3 #[.agg #[.int .i64 a0x, .int .i64 a0y, .int .i64 a0z]] w fun e w' => e = .returned (.bool true) ∧ Below w.heap.size w w' := by
  have HK := fun w => keep_spots a0x a0y a0z none 0 [] w (RowS.nil _ _) (by simp)
  by_cases c0 : cvE a0x a0y a0z = 0
  · have h : spE a0x a0y a0z [] = 0 := spE_of c0 fun s hs => by simp at hs
    rw [h] at HK
    have hc := cvE_zero c0
    have hcast := hc.cast
    have p5 := hc.p5
    have p1 := hc.p1
    have bd := cntS_bd a0x.toNat a0y a0z a0x.toNat
    have ha : (a0y.toNat : Int) = a0y := Int.toNat_of_nonneg hc.a0
    have hb : (a0z.toNat : Int) = a0z := Int.toNat_of_nonneg hc.b0
    have hs := hasse hc.pr (by omega) (by omega) (a := a0y.toNat) (b := a0z.toNat) (by have := hc.a1; omega) (by have := hc.b1; omega)
    rw [ha, hb, hcast] at hs
    exact ch_go a0x a0y a0z _ w p5 p1 (by omega) (by omega) hs (fun w => curve_Count a0x a0y a0z w c0) HK
  · have h : ¬ spE a0x a0y a0z [] = 0 := fun h => c0 (spE_cv h)
    rw [beq_eq_false_iff_ne.2 h] at HK
    exact ch_no a0x a0y a0z _ _ w c0 (fun w => curve_Count_bad a0x a0y a0z w c0) HK
end Go.Proofs.Ytnheboamjfahaaa
