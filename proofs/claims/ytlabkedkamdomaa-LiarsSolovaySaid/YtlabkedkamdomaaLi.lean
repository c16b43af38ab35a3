/- The contracts of package liars. -/
import Derived.Test.YtlabkedkamdomaaStrong
import Derived.Test.YtlabkedkamdomaaSq
import Derived.Test.YtlabkedkamdomaaPow
namespace Go.Proofs.Ytlabkedkamdomaa
open Go.RowKit
set_option linter.unusedVariables false
set_option linter.unusedSimpArgs false
def ferB (a n : Int) : Bool := a ^ (n - 1).toNat % n == 1
def eulB (a n : Int) : Bool := (M.jac a n != 0) && (a ^ ((n - 1) / 2).toNat % n == M.jac a n % n)
def askOut (a n : Int) : Prop := farB a = true ∨ n < 3 ∨ 1048576 < n ∨ n % 2 = 0
theorem liars_fermat1 (a n : Int) (w : World) (h1 : 3 ≤ n) (h2 : n ≤ 1048576) :
    Calls Try.prog 42 #[.int .i64 a, .int .i64 n] w fun e w' => e = .returned (.bool (ferB a n)) ∧ w = w' := by
  go_enter Try.func42, Try.ntmps42
  go_wp2_with (go_at_call 40; refine (power_Of _ _ _ _ (by omega) (by omega) (by omega) h2).mono ?_; rintro e w' ⟨rfl, rfl⟩)
  go_ret
  exact ⟨ret_bool (by unfold ferB; rw [show (n - 1).toNat = n.toNat - 1 by omega]), rfl⟩
theorem liars_euler1 (a n : Int) (w : World) (h1 : 3 ≤ n) (h2 : n ≤ 1048576) (h3 : n % 2 = 1) :
    Calls Try.prog 43 #[.int .i64 a, .int .i64 n] w fun e w' => e = .returned (.bool (eulB a n)) ∧ w = w' := by
  have H3 := Lib.hid h3
  clear h3
  have hj := M.jac_cases a n
  obtain ⟨x, hx⟩ : ∃ x, x = M.jac a n := ⟨_, rfl⟩
  rw [← hx] at hj
  have HX := Lib.hid hx
  have k0 : (n - 1) / 2 ≤ 1048576 := by omega
  have k1 : 0 ≤ (n - 1) / 2 := by omega
  clear hx
  by_cases h0 : x = 0
  · have HE : Hid (eulB a n = false) := by show eulB a n = false; simp [eulB, ← HX.out, h0]
    clear hj
    go_enter Try.func43, Try.ntmps43
    go_wp2_with (go_at_call 38; refine (squares_Of _ _ _ (by omega) h2 H3.out).mono ?_; rintro e w' ⟨rfl, rfl⟩; rw [← HX.out])
    go_ret
    exact ⟨ret_bool HE.out.symm, rfl⟩
  · have HE : Hid (eulB a n = (x != 0 && a ^ ((n - 1) / 2).toNat % n == x % n)) := by show eulB a n = _; simp [eulB, ← HX.out]
    have l : -1 ≤ x ∧ x ≤ 1 := by omega
    clear hj
    go_enter Try.func43, Try.ntmps43
    go_wp2_with (first | (go_at_call 38; refine (squares_Of _ _ _ (by omega) h2 H3.out).mono ?_; rintro e w' ⟨rfl, rfl⟩; rw [← HX.out]) | (go_at_call 40; refine (power_Of _ _ _ _ (by omega) (by omega) (by omega) h2).mono ?_; rintro e w' ⟨rfl, rfl⟩) | (go_at_call 44; refine (euclid_Mod _ _ _ (by omega) (by omega)).mono ?_; rintro e w' ⟨rfl, rfl⟩))
    go_ret
    exact ⟨ret_bool HE.out.symm, rfl⟩
theorem liars_ask_fermat (a n : Int) (w : World) (ha : farB a = false) (h1 : 3 ≤ n) (h2 : n ≤ 1048576) (h3 : n % 2 = 1) :
    Calls Try.prog 41 #[.func (.func 42) #[] #[], .int .i64 a, .int .i64 n] w fun e w' => e = .returned (.tuple #[.bool (ferB a n), .int .i64 0]) ∧ w = w' := by
  obtain ⟨c1, c2⟩ := farB_false ha
  have H3 := Lib.hid h3
  have z : (n % 2 == 0) = false := by simp; omega
  clear h3 ha
  go_enter Try.func41, Try.ntmps41
  go_wp2_with (go_at_call 42; refine (liars_fermat1 _ _ _ h1 h2).mono ?_; rintro e w' ⟨rfl, rfl⟩)
  go_ret2
  exact ⟨rfl, rfl⟩
theorem liars_ask_fermat_no (a n : Int) (w : World) (h : askOut a n) :
    Calls Try.prog 41 #[.func (.func 42) #[] #[], .int .i64 a, .int .i64 n] w fun e w' => e = .returned (.tuple #[.bool false, .int .i64 2]) ∧ w = w' := by
  have hc : a < -2147483648 ∨ (-2147483648 ≤ a ∧ 2147483648 < a) ∨ (-2147483648 ≤ a ∧ a ≤ 2147483648 ∧ (n < 3 ∨ (3 ≤ n ∧ 1048576 < n) ∨ (3 ≤ n ∧ n ≤ 1048576 ∧ n % 2 = 0))) := by
    unfold askOut at h
    by_cases e : farB a = true
    · have := farB_true e; omega
    · have := farB_false (by simpa using e : farB a = false)
      rcases h with h | h
      · exact absurd h e
      · omega
  clear h
  rcases hc with c | ⟨c1, c2⟩ | ⟨c1, c2, (c3 | ⟨c3, c4⟩ | ⟨c3, c4, c5⟩)⟩
  all_goals
    (try (have z : (n % 2 == 0) = true := by simp [c5]))
    (try clear c5)
    go_enter Try.func41, Try.ntmps41
    go_wp2
    go_ret2
    exact ⟨rfl, rfl⟩
theorem liars_Fermat (a n : Int) (w : World) (ha : farB a = false) (h1 : 3 ≤ n) (h2 : n ≤ 1048576) (h3 : n % 2 = 1) :
    Calls Try.prog 26 #[.int .i64 a, .int .i64 n] w fun e w' => e = .returned (.tuple #[.bool (ferB a n), .int .i64 0]) ∧ w = w' := by
  go_enter Try.func26, Try.ntmps26
  go_wp2_with (go_at_call 41; refine (liars_ask_fermat _ _ _ ha h1 h2 h3).mono ?_; rintro e w' ⟨rfl, rfl⟩)
  go_ret2
  exact ⟨rfl, rfl⟩
theorem liars_Fermat_no (a n : Int) (w : World) (h : askOut a n) :
    Calls Try.prog 26 #[.int .i64 a, .int .i64 n] w fun e w' => e = .returned (.tuple #[.bool false, .int .i64 2]) ∧ w = w' := by
  go_enter Try.func26, Try.ntmps26
  go_wp2_with (go_at_call 41; refine (liars_ask_fermat_no _ _ _ h).mono ?_; rintro e w' ⟨rfl, rfl⟩)
  go_ret2
  exact ⟨rfl, rfl⟩
theorem liars_ask_euler (a n : Int) (w : World) (ha : farB a = false) (h1 : 3 ≤ n) (h2 : n ≤ 1048576) (h3 : n % 2 = 1) :
    Calls Try.prog 41 #[.func (.func 43) #[] #[], .int .i64 a, .int .i64 n] w fun e w' => e = .returned (.tuple #[.bool (eulB a n), .int .i64 0]) ∧ w = w' := by
  obtain ⟨c1, c2⟩ := farB_false ha
  have H3 := Lib.hid h3
  have z : (n % 2 == 0) = false := by simp; omega
  clear h3 ha
  go_enter Try.func41, Try.ntmps41
  go_wp2_with (go_at_call 43; refine (liars_euler1 _ _ _ h1 h2 H3.out).mono ?_; rintro e w' ⟨rfl, rfl⟩)
  go_ret2
  exact ⟨rfl, rfl⟩
theorem liars_ask_euler_no (a n : Int) (w : World) (h : askOut a n) :
    Calls Try.prog 41 #[.func (.func 43) #[] #[], .int .i64 a, .int .i64 n] w fun e w' => e = .returned (.tuple #[.bool false, .int .i64 2]) ∧ w = w' := by
  have hc : a < -2147483648 ∨ (-2147483648 ≤ a ∧ 2147483648 < a) ∨ (-2147483648 ≤ a ∧ a ≤ 2147483648 ∧ (n < 3 ∨ (3 ≤ n ∧ 1048576 < n) ∨ (3 ≤ n ∧ n ≤ 1048576 ∧ n % 2 = 0))) := by
    unfold askOut at h
    by_cases e : farB a = true
    · have := farB_true e; omega
    · have := farB_false (by simpa using e : farB a = false)
      rcases h with h | h
      · exact absurd h e
      · omega
  clear h
  rcases hc with c | ⟨c1, c2⟩ | ⟨c1, c2, (c3 | ⟨c3, c4⟩ | ⟨c3, c4, c5⟩)⟩
  all_goals
    (try (have z : (n % 2 == 0) = true := by simp [c5]))
    (try clear c5)
    go_enter Try.func41, Try.ntmps41
    go_wp2
    go_ret2
    exact ⟨rfl, rfl⟩
theorem liars_Euler (a n : Int) (w : World) (ha : farB a = false) (h1 : 3 ≤ n) (h2 : n ≤ 1048576) (h3 : n % 2 = 1) :
    Calls Try.prog 27 #[.int .i64 a, .int .i64 n] w fun e w' => e = .returned (.tuple #[.bool (eulB a n), .int .i64 0]) ∧ w = w' := by
  go_enter Try.func27, Try.ntmps27
  go_wp2_with (go_at_call 41; refine (liars_ask_euler _ _ _ ha h1 h2 h3).mono ?_; rintro e w' ⟨rfl, rfl⟩)
  go_ret2
  exact ⟨rfl, rfl⟩
theorem liars_Euler_no (a n : Int) (w : World) (h : askOut a n) :
    Calls Try.prog 27 #[.int .i64 a, .int .i64 n] w fun e w' => e = .returned (.tuple #[.bool false, .int .i64 2]) ∧ w = w' := by
  go_enter Try.func27, Try.ntmps27
  go_wp2_with (go_at_call 41; refine (liars_ask_euler_no _ _ _ h).mono ?_; rintro e w' ⟨rfl, rfl⟩)
  go_ret2
  exact ⟨rfl, rfl⟩
theorem liars_ask_strong (a n : Int) (w : World) (ha : farB a = false) (h1 : 3 ≤ n) (h2 : n ≤ 1048576) (h3 : n % 2 = 1) :
    Calls Try.prog 41 #[.func (.func 45) #[] #[], .int .i64 a, .int .i64 n] w fun e w' => e = .returned (.tuple #[.bool (strB a n), .int .i64 0]) ∧ w = w' := by
  obtain ⟨c1, c2⟩ := farB_false ha
  have H3 := Lib.hid h3
  have z : (n % 2 == 0) = false := by simp; omega
  clear h3 ha
  go_enter Try.func41, Try.ntmps41
  go_wp2_with (go_at_call 45; refine (liars_strong _ _ _ h1 h2).mono ?_; rintro e w' ⟨rfl, rfl⟩)
  go_ret2
  exact ⟨rfl, rfl⟩
theorem liars_ask_strong_no (a n : Int) (w : World) (h : askOut a n) :
    Calls Try.prog 41 #[.func (.func 45) #[] #[], .int .i64 a, .int .i64 n] w fun e w' => e = .returned (.tuple #[.bool false, .int .i64 2]) ∧ w = w' := by
  have hc : a < -2147483648 ∨ (-2147483648 ≤ a ∧ 2147483648 < a) ∨ (-2147483648 ≤ a ∧ a ≤ 2147483648 ∧ (n < 3 ∨ (3 ≤ n ∧ 1048576 < n) ∨ (3 ≤ n ∧ n ≤ 1048576 ∧ n % 2 = 0))) := by
    unfold askOut at h
    by_cases e : farB a = true
    · have := farB_true e; omega
    · have := farB_false (by simpa using e : farB a = false)
      rcases h with h | h
      · exact absurd h e
      · omega
  clear h
  rcases hc with c | ⟨c1, c2⟩ | ⟨c1, c2, (c3 | ⟨c3, c4⟩ | ⟨c3, c4, c5⟩)⟩
  all_goals
    (try (have z : (n % 2 == 0) = true := by simp [c5]))
    (try clear c5)
    go_enter Try.func41, Try.ntmps41
    go_wp2
    go_ret2
    exact ⟨rfl, rfl⟩
theorem liars_Strong (a n : Int) (w : World) (ha : farB a = false) (h1 : 3 ≤ n) (h2 : n ≤ 1048576) (h3 : n % 2 = 1) :
    Calls Try.prog 28 #[.int .i64 a, .int .i64 n] w fun e w' => e = .returned (.tuple #[.bool (strB a n), .int .i64 0]) ∧ w = w' := by
  go_enter Try.func28, Try.ntmps28
  go_wp2_with (go_at_call 41; refine (liars_ask_strong _ _ _ ha h1 h2 h3).mono ?_; rintro e w' ⟨rfl, rfl⟩)
  go_ret2
  exact ⟨rfl, rfl⟩
theorem liars_Strong_no (a n : Int) (w : World) (h : askOut a n) :
    Calls Try.prog 28 #[.int .i64 a, .int .i64 n] w fun e w' => e = .returned (.tuple #[.bool false, .int .i64 2]) ∧ w = w' := by
  go_enter Try.func28, Try.ntmps28
  go_wp2_with (go_at_call 41; refine (liars_ask_strong_no _ _ _ h).mono ?_; rintro e w' ⟨rfl, rfl⟩)
  go_ret2
  exact ⟨rfl, rfl⟩
end Go.Proofs.Ytlabkedkamdomaa
