/- Contracts of squares.Jacobi. -/
import Derived.Test.YtlabkedkamdomaaSq
import Derived.Test.YtlabkedkamdomaaRef
namespace Go.Proofs.Ytlabkedkamdomaa
open Go.RowKit
set_option linter.unusedVariables false
set_option linter.unusedSimpArgs false
set_option maxHeartbeats 800000 in
theorem squares_Jacobi (a n : Int) (w : World) (h1 : -2147483648 ≤ a) (h2 : a ≤ 2147483648) (h3 : 1 ≤ n) (h4 : n ≤ 1048576) (h5 : n % 2 = 1) :
    Calls Try.prog 23 #[.int .i64 a, .int .i64 n] w fun e w' => e = .returned (.tuple #[.int .i64 (M.jac a n), .int .i64 0]) ∧ w = w' := by
  have H5 := Lib.hid h5
  have c : (n % 2 == 0) = false := by simp; omega
  clear h5
  go_enter Try.func23, Try.ntmps23
  go_wp2_with (first | (go_at_call 38; refine (squares_Of _ _ _ (by omega) (by omega) H5.out).mono ?_; rintro e w' ⟨rfl, rfl⟩) | go_in)
  go_ret2
  exact ⟨rfl, rfl⟩
set_option maxHeartbeats 800000 in
theorem squares_Jacobi_no (a n : Int) (w : World) (h : farB a = true ∨ n < 1 ∨ 1048576 < n ∨ n % 2 = 0) :
    Calls Try.prog 23 #[.int .i64 a, .int .i64 n] w fun e w' => e = .returned (.tuple #[.int .i64 0, .int .i64 2]) ∧ w = w' := by
  have hc : a < -2147483648 ∨ (-2147483648 ≤ a ∧ 2147483648 < a) ∨ (-2147483648 ≤ a ∧ a ≤ 2147483648 ∧ (n < 1 ∨ (1 ≤ n ∧ 1048576 < n) ∨ (1 ≤ n ∧ n ≤ 1048576 ∧ n % 2 = 0))) := by
    by_cases e : farB a = true
    · have := farB_true e; omega
    · have := farB_false (by simpa using e : farB a = false)
      have h' : n < 1 ∨ 1048576 < n ∨ n % 2 = 0 := h.resolve_left e
      omega
  clear h
  rcases hc with c1 | ⟨c1, c2⟩ | ⟨c1, c2, c3 | ⟨c3, c4⟩ | ⟨c3, c4, c5⟩⟩
  all_goals
    try replace c5 : (n % 2 == 0) = true := by simpa using c5
    go_enter Try.func23, Try.ntmps23
    go_wp2_with go_in
    go_ret2
    exact ⟨rfl, rfl⟩
end Go.Proofs.Ytlabkedkamdomaa
