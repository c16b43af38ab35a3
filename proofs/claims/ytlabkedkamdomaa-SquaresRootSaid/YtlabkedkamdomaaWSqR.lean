/- The walk of the statement SquaresRoot. -/
import Derived.Test.YtlabkedkamdomaaTonR
import Derived.Test.YtlabkedkamdomaaRef
import Derived.Test.YtlabkedkamdomaaRefIs
namespace Go.Proofs.Ytlabkedkamdomaa
open Go.RowKit
set_option linter.unusedVariables false
set_option linter.unusedSimpArgs false
set_option maxRecDepth 100000 in
set_option maxHeartbeats 6400000 in
theorem WSquaresRoot (a0 : Int) (a1 : Int) (a2 : Int) (w : World) (w0 : (Lit.int .i64 a0).wf = true) (w1 : (Lit.int .i64 a1).wf = true) (w2 : (Lit.int .i64 a2).wf = true) :
    Calls Try.prog 12 #[.int .i64 a0, .int .i64 a1, .int .i64 a2] w fun e w' => e = .returned (.bool true) ∧ Below w.heap.size w w' := by
  by_cases hbad : ¬ (farB a0 = false ∧ modB a1 = true ∧ a1 ≠ 2 ∧ prB a1 = true)
  · have hc : farB a0 = true ∨ (farB a0 = false ∧ (modB a1 = false ∨ (modB a1 = true ∧ 1 ≤ a1 ∧ a1 ≤ 1048576 ∧ ((a1 == 2) = true ∨ ((a1 == 2) = false ∧ prB a1 = false))))) := by
      cases h0 : farB a0 with
      | true => exact .inl rfl
      | false =>
        refine .inr ⟨rfl, ?_⟩
        cases h1 : modB a1 with
        | false => exact .inl rfl
        | true =>
          obtain ⟨m1, m2⟩ := modB_true h1
          refine .inr ⟨rfl, m1, m2, ?_⟩
          cases h2 : (a1 == 2) with
          | true => exact .inl rfl
          | false =>
            refine .inr ⟨rfl, ?_⟩
            cases h3 : prB a1 with
            | false => rfl
            | true => exact absurd ⟨h0, h1, by simpa using h2, h3⟩ hbad
    have HC : Hid (∃ T : Int, (T != 0) = true ∧ Calls Try.prog 29 #[.int .i64 a0, .int .i64 a1] w fun e w' => e = .returned (.tuple #[.int .i64 0, .int .i64 T]) ∧ Below w.heap.size w w') := by
      rcases hc with h | ⟨h, h1 | ⟨h1, m1, m2, h2⟩⟩
      · exact ⟨2, rfl, squares_Root_out a0 a1 w (.inl h)⟩
      · exact ⟨2, rfl, squares_Root_out a0 a1 w (.inr ⟨h, modB_false h1⟩)⟩
      · refine ⟨3, rfl, squares_Root_bad a0 a1 w h m1 m2 ?_⟩
        rcases h2 with h2 | ⟨_, h2⟩
        · cases h3 : prB a1
          · exact .inl rfl
          · exact .inr ⟨by simpa using h2, rfl⟩
        · exact .inl h2
    obtain ⟨T, t1, HT⟩ := HC.out
    have HC2 := Lib.hid HT
    clear HC HT hbad w0 w1 w2
    rcases hc with h | ⟨h, h1 | ⟨h1, m1, m2, h2 | ⟨h2, h3⟩⟩⟩
    all_goals
      go_enter Try.func12, Try.ntmps12
      go_wp2_with (first
        | (go_at_call 18; refine (keep_near _ _).mono ?_; rintro e w' ⟨rfl, rfl⟩)
        | (go_at_call 16; refine (keep_modulus _ _).mono ?_; rintro e w' ⟨rfl, rfl⟩)
        | (go_at_call 17; refine (ref_Is _ _ (by omega)).mono ?_; rintro e w' ⟨rfl, rfl⟩)
        | (go_at_call 29; refine HC2.out.mono ?_; rintro e w5 ⟨rfl, hb5⟩))
      go_ret
      exact ⟨rfl, hb5⟩
  obtain ⟨hf, hm, hn2, pp⟩ := Decidable.not_not.1 hbad
  obtain ⟨m1, m2⟩ := modB_true hm
  obtain ⟨N, rfl⟩ := Int.eq_ofNat_of_zero_le (show 0 ≤ a1 by omega)
  have hp : M.Pr N := by have := prB_true pp; simpa using this
  have n2 := hp.1
  have n3 : 3 ≤ N := by omega
  have ho : N % 2 = 1 := by
    rcases Nat.mod_two_eq_zero_or_one N with h | h
    · rcases hp.2 2 (Nat.dvd_of_mod_eq_zero h) with h3 | h3 <;> omega
    · exact h
  have t2 : ((N : Int) == 2) = false := by simp; omega
  obtain ⟨f1, f2⟩ := farB_false hf
  have HR := Lib.hid (squares_Root a0 N w hf hp n3 (by omega) ho)
  have HJ := Lib.hid fun w => squares_Jacobi a0 N w f1 f2 m1 m2 (by omega)
  have HMa := Lib.hid fun w => ref_Mod a0 N w m1 (by omega)
  have HMx := Lib.hid fun w => ref_Mod a2 N w m1 (by omega)
  obtain ⟨A, hA⟩ : ∃ A, a0 % (N : Int) = A := ⟨_, rfl⟩
  obtain ⟨X, hX⟩ : ∃ X, a2 % (N : Int) = X := ⟨_, rfl⟩
  have x1 : 0 ≤ X := by rw [← hX]; exact Int.emod_nonneg _ (by omega)
  have x2 : X < N := by rw [← hX]; exact Int.emod_lt_of_pos _ (by omega)
  rw [hA] at HMa
  rw [hX] at HMx
  have HA := Lib.hid hA
  have HTR := Lib.hid fun (r x : Int) (r1 : 0 ≤ r) (r2 : r < N) (x1 : 0 ≤ x) (x2 : x < N) (h : x * x % (N : Int) = r * r % N) => two_roots hp r1 r2 x1 x2 h
  have z1 : ((N : Int) == 0) = false := by simp; omega
  have z2 : ¬ (N : Int) = 0 := by omega
  clear hbad hn2 hp ho hA hX w0 w1 w2
  go_enter Try.func12, Try.ntmps12
  go_wp2_with fail
  refine HR.out.mono ?_
  rintro e w3 ⟨⟨hj, rfl⟩ | ⟨hj, r, rfl, r1, r2, hr⟩, hb3⟩
  · rw [hj] at HJ
    clear hj
    go_wp2_with (first
        | (go_at_call 18; refine (keep_near _ _).mono ?_; rintro e w' ⟨rfl, rfl⟩)
        | (go_at_call 16; refine (keep_modulus _ _).mono ?_; rintro e w' ⟨rfl, rfl⟩)
        | (go_at_call 17; refine (ref_Is _ _ (by omega)).mono ?_; rintro e w' ⟨rfl, rfl⟩)
        | (go_at_call 23; refine (HJ.out _).mono ?_; rintro e w' ⟨rfl, rfl⟩))
    go_ret
    exact ⟨rfl, hb3⟩
  · obtain ⟨J, hJ⟩ : ∃ J, M.jac a0 N = J := ⟨_, rfl⟩
    rw [hJ] at HJ hj
    have j0 : 0 ≤ J := by omega
    have r3 : r < N := by omega
    have r4 : decide (r < 0) = false := decide_eq_false (by omega)
    have r5 : decide ((N : Int) < 2 * r) = false := decide_eq_false (by omega)
    have s1 : IntKind.i64.wrap (2 * r) = 2 * r := IntWalk.i64_in _ (by omega)
    have s2 := mul_lim r1 (by omega) r1 (by omega)
    have s3 : IntKind.i64.wrap (r * r) = r * r := IntWalk.i64_in _ (by omega)
    have s4 : (r * r).tmod N = r * r % N := Int.tmod_eq_emod_of_nonneg (by omega)
    have s5 : (r * r % (N : Int) != A) = false := by rw [hr.out, HA.out]; simp
    have q2 := mul_lim x1 (by omega) x1 (by omega)
    have q3 : IntKind.i64.wrap (X * X) = X * X := IntWalk.i64_in _ (by omega)
    have q4 : (X * X).tmod N = X * X % N := Int.tmod_eq_emod_of_nonneg (by omega)
    have q5 : IntKind.i64.wrap ((N : Int) - r) = (N : Int) - r := IntWalk.i64_in _ (by omega)
    have hcase : (X * X % (N : Int) != A) = true ∨ ((X * X % (N : Int) != A) = false ∧ ((X == r) = true ∨ ((X == r) = false ∧ (X == (N : Int) - r) = true))) := by
      by_cases h : X * X % (N : Int) = A
      · refine .inr ⟨by simp [h], ?_⟩
        rcases HTR.out r X r1 r3 x1 x2 (h.trans (HA.out.symm.trans hr.out.symm)) with h1 | h1
        · exact .inl (by simp [h1])
        · by_cases h2 : X = r
          · exact .inl (by simp [h2])
          · exact .inr ⟨by simpa using h2, by simp [h1]⟩
      · exact .inl (by simpa using h)
    clear hJ hj
    rcases hcase with h1 | ⟨h1, h2 | ⟨h2, h3⟩⟩
    all_goals
      go_wp2_with (first
        | (go_at_call 18; refine (keep_near _ _).mono ?_; rintro e w' ⟨rfl, rfl⟩)
        | (go_at_call 16; refine (keep_modulus _ _).mono ?_; rintro e w' ⟨rfl, rfl⟩)
        | (go_at_call 17; refine (ref_Is _ _ (by omega)).mono ?_; rintro e w' ⟨rfl, rfl⟩)
        | (go_at_call 23; refine (HJ.out _).mono ?_; rintro e w' ⟨rfl, rfl⟩))
      go_quiet ((go_at_call 25; exact quiet_same (HMa.out _)))
      have hb4 := below_drewN hb3 nq
      obtain ⟨w4, hw4⟩ : ∃ w4, w3.drewN nq = w4 := ⟨_, rfl⟩
      rw [hw4] at hb4 ⊢
      clear hw4
      go_wp2_with fail
      refine (HMx.out _).mono ?_
      rintro e w' ⟨rfl, rfl⟩
      go_wp2
      go_quiet ((go_at_call 25; exact quiet_same (HMa.out _)))
      go_wp2
      go_ret
      exact ⟨rfl, below_drewN hb4 _⟩
end Go.Proofs.Ytlabkedkamdomaa
