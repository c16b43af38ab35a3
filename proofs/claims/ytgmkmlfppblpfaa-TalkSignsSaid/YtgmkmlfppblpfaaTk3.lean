/- Contracts of package talk: speak, right. -/
import Derived.Test.YtgmkmlfppblpfaaTk2
import Derived.StillTailTactics
namespace Go.Proofs.Ytgmkmlfppblpfaa
open Go.RowKit
set_option linter.unusedVariables false
set_option linter.unusedSimpArgs false
/-- does what was said fit? -/
def rightB (P G y f q v : Int) : Bool := pw G v P == f * pw y q P % P
set_option maxRecDepth 20000 in
set_option maxHeartbeats 1600000 in
theorem talk_speak (P Q G H s k q : Int) (w : World) (p1 : 2 ≤ P) (p2 : P ≤ 1048576) (q1 : 2 ≤ Q) (q2 : Q ≤ 1048576) (hs : 0 ≤ s ∧ s < Q) (hk : 0 ≤ k ∧ k < Q) (hq : 0 ≤ q ∧ q < Q) :
    Calls Try.prog 42 #[.agg #[.int .i64 P, .int .i64 Q, .int .i64 G, .int .i64 H], .int .i64 s, .int .i64 k, .int .i64 q] w fun e w' => e = .returned (.agg #[.int .i64 (pw G k P), .int .i64 q, .int .i64 ((k + q * s) % Q)]) ∧ Below w.heap.size w w' := by
  have m := mul_lim hq.1 (show q ≤ 1048576 by omega) hs.1 (show s ≤ 1048576 by omega)
  have f1 : IntKind.i64.wrap (q * s) = q * s := IntWalk.i64_in _ (by omega)
  have f2 : IntKind.i64.wrap (k + q * s) = k + q * s := IntWalk.i64_in _ (by omega)
  have f5 : Int.tmod (k + q * s) Q = (k + q * s) % Q := Int.tmod_eq_emod_of_nonneg (by omega)
  have f3 : (Q == 0) = false := by simp; omega
  have f4 : ¬ Q = 0 := by omega
  obtain ⟨k1, k2⟩ := hk
  go_enter Try.func42, Try.ntmps42
  go_wp2_with fail
  obtain ⟨w1, hw1⟩ : ∃ W, W = (w.alloc (.cells #[.int .i64 P, .int .i64 Q, .int .i64 G, .int .i64 H] 23)).alloc (.cells #[.int .i64 0, .int .i64 0, .int .i64 0] 43) := ⟨_, rfl⟩
  have k'0 : w1.cell? ⟨w.heap.size, 0, none⟩ = some (.int .i64 P) := by rw [hw1]; simp [go_sem]
  have k'1 : w1.cell? ⟨w.heap.size, 1, none⟩ = some (.int .i64 Q) := by rw [hw1]; simp [go_sem]
  have k'2 : w1.cell? ⟨w.heap.size, 2, none⟩ = some (.int .i64 G) := by rw [hw1]; simp [go_sem]
  have k'3 : w1.cell? ⟨w.heap.size, 3, none⟩ = some (.int .i64 H) := by rw [hw1]; simp [go_sem]
  have r0 : w1.cell? ⟨w.heap.size + 1, 0, none⟩ = some (.int .i64 0) := by rw [hw1]; simp [go_sem]
  have r1 : w1.cell? ⟨w.heap.size + 1, 1, none⟩ = some (.int .i64 0) := by rw [hw1]; simp [go_sem]
  have r2 : w1.cell? ⟨w.heap.size + 1, 2, none⟩ = some (.int .i64 0) := by rw [hw1]; simp [go_sem]
  have s0 : w1.frozen? ⟨w.heap.size + 1, 0, none⟩ = false := by rw [hw1]; simp [go_sem]
  have s1 : w1.frozen? ⟨w.heap.size + 1, 1, none⟩ = false := by rw [hw1]; simp [go_sem]
  have s2 : w1.frozen? ⟨w.heap.size + 1, 2, none⟩ = false := by rw [hw1]; simp [go_sem]
  have hbw : Below w.heap.size w w1 := by rw [hw1]; exact ((Below.refl _ _).alloc (Nat.le_refl _) _).alloc (by simp) _
  rw [← hw1]
  clear hw1
  refine wp_region_still_tail 16 (by kernel_rfl) (by kernel_rfl) ?_
  simp only [List.take_succ_cons, List.take_zero, List.drop_succ_cons, List.drop_zero]
  iterate 5 still_step
  still_call (still_of (power_Of' G k P _ (by omega) (by omega) (by omega) p2))
  iterate 10 still_step
  refine wpStill_nil ?_
  change wpList _ _ _ _ _ w1.drew
  go_wp2
  refine bodyPost_ret (v := .agg #[.int .i64 (pw G k P), .int .i64 q, .int .i64 ((k + q * s) % Q)]) ?_ rfl ?_
  · simp [results, Try.f42, go_sem, r0, r1, r2]
  · exact ⟨rfl, (((hbw.setCell (by simp) _).setCell (by simp) _).setCell (by simp) _).drew⟩
set_option maxRecDepth 20000 in
set_option maxHeartbeats 3200000 in
theorem talk_right (P Q G H y f q v : Int) (w : World) (p1 : 2 ≤ P) (p2 : P ≤ 1048576) (hf : 0 ≤ f ∧ f < P) (hq : 0 ≤ q ∧ q < 1048576) (hv : 0 ≤ v ∧ v < 1048576) :
    Calls Try.prog 44 #[.agg #[.int .i64 P, .int .i64 Q, .int .i64 G, .int .i64 H], .int .i64 y, .agg #[.int .i64 f, .int .i64 q, .int .i64 v]] w fun e w' => e = .returned (.bool (rightB P G y f q v)) ∧ Below w.heap.size w w' := by
  unfold rightB
  have a1 := pw_nonneg y q (show 1 ≤ P by omega)
  have a2 := pw_lt y q (show 1 ≤ P by omega)
  obtain ⟨x, hx⟩ : ∃ x, pw y q P = x := ⟨_, rfl⟩
  rw [hx] at a1 a2 ⊢
  have HX := Lib.hid hx
  clear hx
  have m := mul_lim hf.1 (show f ≤ 1048576 by omega) a1 (show x ≤ 1048576 by omega)
  have f1 : IntKind.i64.wrap (f * x) = f * x := IntWalk.i64_in _ (by omega)
  have f5 : Int.tmod (f * x) P = f * x % P := Int.tmod_eq_emod_of_nonneg (by omega)
  have f3 : (P == 0) = false := by simp; omega
  have f4 : ¬ P = 0 := by omega
  obtain ⟨q1, q2⟩ := hq
  obtain ⟨v1, v2⟩ := hv
  go_enter Try.func44, Try.ntmps44
  go_wp2_with fail
  obtain ⟨w1, hw1⟩ : ∃ W, W = (w.alloc (.cells #[.int .i64 P, .int .i64 Q, .int .i64 G, .int .i64 H] 23)).alloc (.cells #[.int .i64 f, .int .i64 q, .int .i64 v] 43) := ⟨_, rfl⟩
  have k'0 : w1.cell? ⟨w.heap.size, 0, none⟩ = some (.int .i64 P) := by rw [hw1]; simp [go_sem]
  have k'1 : w1.cell? ⟨w.heap.size, 1, none⟩ = some (.int .i64 Q) := by rw [hw1]; simp [go_sem]
  have k'2 : w1.cell? ⟨w.heap.size, 2, none⟩ = some (.int .i64 G) := by rw [hw1]; simp [go_sem]
  have k'3 : w1.cell? ⟨w.heap.size, 3, none⟩ = some (.int .i64 H) := by rw [hw1]; simp [go_sem]
  have r0 : w1.cell? ⟨w.heap.size + 1, 0, none⟩ = some (.int .i64 f) := by rw [hw1]; simp [go_sem]
  have r1 : w1.cell? ⟨w.heap.size + 1, 1, none⟩ = some (.int .i64 q) := by rw [hw1]; simp [go_sem]
  have r2 : w1.cell? ⟨w.heap.size + 1, 2, none⟩ = some (.int .i64 v) := by rw [hw1]; simp [go_sem]
  have hbw : Below w.heap.size w w1 := by rw [hw1]; exact ((Below.refl _ _).alloc (Nat.le_refl _) _).alloc (by simp) _
  rw [← hw1]
  clear hw1
  refine wp_region_still_tail 20 (by kernel_rfl) (by kernel_rfl) ?_
  simp only [List.take_succ_cons, List.take_zero, List.drop_succ_cons, List.drop_zero]
  iterate 6 still_step
  still_call (still_of (power_Of' G v P _ (by omega) (by omega) (by omega) p2))
  iterate 7 still_step
  still_call (still_of (power_Of' y q P _ (by omega) (by omega) (by omega) p2))
  rw [HX.out]
  iterate 5 still_step
  refine wpStill_nil ?_
  change wpList _ _ _ _ _ w1.drew
  go_wp2
  go_ret
  exact ⟨rfl, hbw.drew⟩
end Go.Proofs.Ytgmkmlfppblpfaa
