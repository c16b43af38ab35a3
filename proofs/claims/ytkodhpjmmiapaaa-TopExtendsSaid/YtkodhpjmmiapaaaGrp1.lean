/- Contracts of package group: Check. -/
import Derived.Test.YtkodhpjmmiapaaaGrp
namespace Go.Proofs.Ytkodhpjmmiapaaa
open Go.RowKit
set_option linter.unusedVariables false
set_option linter.unusedSimpArgs false
set_option maxHeartbeats 3200000 in
theorem group_Check_out (P Q G H : Int) (w : World) (h : ¬ GIn P Q G H) :
    Calls Try.prog 8 #[.agg #[.int .i64 P, .int .i64 Q, .int .i64 G, .int .i64 H]] w fun e w' => e = .returned (.int .i64 2) ∧ Below w.heap.size w w' := by
  have c := not_gin h
  clear h
  have hmf : ∀ (fn : Fn) (first cap : Array Value) (w : World), (Instr.makeFunc fn first cap).run Try.prog w = .ok (.func fn first cap) w := fun _ _ _ _ => rfl
  rcases c with c1 | ⟨c1, c2⟩ | ⟨c1, c2, c3⟩ | ⟨c1, c2, c3, c4⟩ | ⟨c1, c2, c3, c4, c5⟩ | ⟨c1, c2, c3, c4, c5, c6⟩ | ⟨c1, c2, c3, c4, c5, c6, c7⟩ | ⟨c1, c2, c3, c4, c5, c6, c7, c8⟩
  · have d1 : decide (P < 3) = true := decide_eq_true (by omega)
    go_enter Try.func8, Try.ntmps8
    go_wp2_with go_in
    go_ret
    exact ⟨rfl, (Below.refl _ _).alloc (Nat.le_refl _) _⟩
  · have d1 : decide (P < 3) = false := decide_eq_false (by omega)
    have d2 : decide (1048576 < P) = true := decide_eq_true (by omega)
    go_enter Try.func8, Try.ntmps8
    go_wp2_with go_in
    go_ret
    exact ⟨rfl, (Below.refl _ _).alloc (Nat.le_refl _) _⟩
  · have d1 : decide (P < 3) = false := decide_eq_false (by omega)
    have d2 : decide (1048576 < P) = false := decide_eq_false (by omega)
    have d3 : decide (2 ≤ Q) = false := decide_eq_false (by omega)
    go_enter Try.func8, Try.ntmps8
    go_wp2_with go_in
    go_ret
    exact ⟨rfl, (Below.refl _ _).alloc (Nat.le_refl _) _⟩
  · have d1 : decide (P < 3) = false := decide_eq_false (by omega)
    have d2 : decide (1048576 < P) = false := decide_eq_false (by omega)
    have d3 : decide (2 ≤ Q) = true := decide_eq_true (by omega)
    have d4 : decide (Q < P) = false := decide_eq_false (by omega)
    go_enter Try.func8, Try.ntmps8
    go_wp2_with go_in
    go_ret
    exact ⟨rfl, (Below.refl _ _).alloc (Nat.le_refl _) _⟩
  · have d1 : decide (P < 3) = false := decide_eq_false (by omega)
    have d2 : decide (1048576 < P) = false := decide_eq_false (by omega)
    have d3 : decide (2 ≤ Q) = true := decide_eq_true (by omega)
    have d4 : decide (Q < P) = true := decide_eq_true (by omega)
    have d5 : decide (2 ≤ G) = false := decide_eq_false (by omega)
    go_enter Try.func8, Try.ntmps8
    go_wp2_with go_in
    go_ret
    exact ⟨rfl, (Below.refl _ _).alloc (Nat.le_refl _) _⟩
  · have d1 : decide (P < 3) = false := decide_eq_false (by omega)
    have d2 : decide (1048576 < P) = false := decide_eq_false (by omega)
    have d3 : decide (2 ≤ Q) = true := decide_eq_true (by omega)
    have d4 : decide (Q < P) = true := decide_eq_true (by omega)
    have d5 : decide (2 ≤ G) = true := decide_eq_true (by omega)
    have d6 : decide (G < P) = false := decide_eq_false (by omega)
    go_enter Try.func8, Try.ntmps8
    go_wp2_with go_in
    go_ret
    exact ⟨rfl, (Below.refl _ _).alloc (Nat.le_refl _) _⟩
  · have d1 : decide (P < 3) = false := decide_eq_false (by omega)
    have d2 : decide (1048576 < P) = false := decide_eq_false (by omega)
    have d3 : decide (2 ≤ Q) = true := decide_eq_true (by omega)
    have d4 : decide (Q < P) = true := decide_eq_true (by omega)
    have d5 : decide (2 ≤ G) = true := decide_eq_true (by omega)
    have d6 : decide (G < P) = true := decide_eq_true (by omega)
    have d7 : decide (2 ≤ H) = false := decide_eq_false (by omega)
    go_enter Try.func8, Try.ntmps8
    go_wp2_with go_in
    go_ret
    exact ⟨rfl, (Below.refl _ _).alloc (Nat.le_refl _) _⟩
  · have d1 : decide (P < 3) = false := decide_eq_false (by omega)
    have d2 : decide (1048576 < P) = false := decide_eq_false (by omega)
    have d3 : decide (2 ≤ Q) = true := decide_eq_true (by omega)
    have d4 : decide (Q < P) = true := decide_eq_true (by omega)
    have d5 : decide (2 ≤ G) = true := decide_eq_true (by omega)
    have d6 : decide (G < P) = true := decide_eq_true (by omega)
    have d7 : decide (2 ≤ H) = true := decide_eq_true (by omega)
    have d8 : decide (H < P) = false := decide_eq_false (by omega)
    go_enter Try.func8, Try.ntmps8
    go_wp2_with go_in
    go_ret
    exact ⟨rfl, (Below.refl _ _).alloc (Nat.le_refl _) _⟩
end Go.Proofs.Ytkodhpjmmiapaaa
