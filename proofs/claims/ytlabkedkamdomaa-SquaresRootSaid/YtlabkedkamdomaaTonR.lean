/- The contract of squares.Root. -/
import Derived.Test.YtlabkedkamdomaaTon
import Derived.Test.YtlabkedkamdomaaPrC
namespace Go.Proofs.Ytlabkedkamdomaa
open Go.RowKit
set_option linter.unusedVariables false
set_option linter.unusedSimpArgs false
theorem squares_far (a : Int) (w : World) :
    Calls Try.prog 37 #[.int .i64 a] w fun e w' => e = .returned (.bool (farB a)) ∧ w = w' := by
  have hc : (a < -2147483648 ∧ farB a = true) ∨ (-2147483648 ≤ a ∧ 2147483648 < a ∧ farB a = true) ∨ (-2147483648 ≤ a ∧ a ≤ 2147483648 ∧ farB a = false) := by
    cases e : farB a
    · have := farB_false e; exact .inr (.inr ⟨this.1, this.2, rfl⟩)
    · have := farB_true e
      rcases Decidable.em (a < -2147483648) with h | h
      · exact .inl ⟨h, rfl⟩
      · exact .inr (.inl ⟨by omega, by omega, rfl⟩)
  rcases hc with ⟨c1, h⟩ | ⟨c1, c2, h⟩ | ⟨c1, c2, h⟩
  all_goals
    rw [h]
    clear h
    go_enter Try.func37, Try.ntmps37
    go_wp2
    go_ret
    exact ⟨ret_bool (by simp <;> omega), rfl⟩
theorem squares_Root_out (a p : Int) (w : World) (h : farB a = true ∨ (farB a = false ∧ (p < 1 ∨ 1048576 < p))) :
    Calls Try.prog 29 #[.int .i64 a, .int .i64 p] w fun e w' => e = .returned (.tuple #[.int .i64 0, .int .i64 2]) ∧ Below w.heap.size w w' := by
  have hc : farB a = true ∨ (farB a = false ∧ (p < 1 ∨ (¬ p < 1 ∧ 1048576 < p))) := by
    rcases h with h | ⟨h, h2⟩
    · exact .inl h
    · refine .inr ⟨h, ?_⟩; omega
  clear h
  rcases hc with h | ⟨h, h2 | ⟨h2, h3⟩⟩
  all_goals
    go_enter Try.func29, Try.ntmps29
    go_wp2_with (first | (go_at_call 37; refine (squares_far _ _).mono ?_; rintro e w' ⟨rfl, rfl⟩))
    go_ret2
    exact ⟨rfl, Below.refl _ _⟩
theorem squares_Root_bad (a p : Int) (w : World) (hf : farB a = false) (h1 : 1 ≤ p) (h2 : p ≤ 1048576) (h : prB p = false ∨ (p = 2 ∧ prB p = true)) :
    Calls Try.prog 29 #[.int .i64 a, .int .i64 p] w fun e w' => e = .returned (.tuple #[.int .i64 0, .int .i64 3]) ∧ Below w.heap.size w w' := by
  have HI := Lib.hid fun w => primes_Is_in p w h1 h2
  rcases h with h | ⟨rfl, h⟩
  all_goals
    rw [h] at HI
    clear h
    go_enter Try.func29, Try.ntmps29
    go_wp2_with (first | (go_at_call 37; refine (squares_far _ _).mono ?_; rintro e w' ⟨rfl, rfl⟩))
    refine (HI.out _).mono ?_
    rintro e w1 ⟨rfl, hb1⟩
    go_wp2
    go_ret2
    exact ⟨rfl, hb1⟩
def RootPost (a : Int) (N : Nat) (w : World) (e : Ending) (w' : World) : Prop :=
  ((M.jac a N = -1 ∧ e = .returned (.tuple #[.int .i64 0, .int .i64 5])) ∨
    ((M.jac a N = 0 ∨ M.jac a N = 1) ∧ ∃ r : Int, e = .returned (.tuple #[.int .i64 r, .int .i64 0]) ∧ 0 ≤ r ∧ 2 * r ≤ N ∧ Hid (r * r % (N : Int) = a % N))) ∧ Below w.heap.size w w'
set_option maxHeartbeats 1600000 in
theorem squares_Root (a : Int) (N : Nat) (w : World) (hf : farB a = false) (hp : M.Pr N) (h3 : 3 ≤ N) (hN : N ≤ 1048576) (ho : N % 2 = 1) :
    Calls Try.prog 29 #[.int .i64 a, .int .i64 N] w (RootPost a N w) := by
  have HI := Lib.hid fun w => primes_Is_in N w (by omega) (by omega)
  rw [show prB (N : Int) = true from prB_yes (by simpa using hp)] at HI
  have t1 : ((N : Int) == 2) = false := by simp; omega
  have HM := Lib.hid fun w => euclid_Mod a N w (by omega) (by omega)
  obtain ⟨A, hA⟩ : ∃ A, a % (N : Int) = A := ⟨_, rfl⟩
  have hj : M.jac A N = M.jac a N := by rw [← hA, M.jac_emod]
  rw [hA] at HM
  have HO := Lib.hid fun w => squares_Of A N w (by omega) (by omega) (by omega)
  rw [hj] at HO
  have HA : Hid (A % (N : Int) = a % N) := Lib.hid (by rw [← hA, Int.emod_emod])
  have HC : Hid (M.jac a N = 1 → ∀ w, Calls Try.prog 46 #[.int .i64 A, .int .i64 N] w fun e w' => (∃ X : Int, e = .returned (.int .i64 X) ∧ 0 ≤ X ∧ X < N ∧ Hid (X * X % (N : Int) = A % N)) ∧ Below w.heap.size w w') :=
    Lib.hid fun h w => squares_climb A N w hp h3 hN ho (hj.trans h)
  have HX : Hid (M.jac a N = 0 → 0 % (N : Int) = a % N) := Lib.hid fun h => by
    rw [M.jac_zero_iff] at h
    have hd : (N : Int) ∣ a := by
      have h1 : Int.gcd a N ∣ N := Int.natCast_dvd_natCast.1 (Int.gcd_dvd_right a (N : Int))
      rcases hp.2 _ h1 with h2 | h2
      · exact absurd h2 h
      · have := Int.gcd_dvd_left a (N : Int); rwa [h2] at this
    rw [Int.emod_eq_zero_of_dvd hd, Int.zero_emod]
  have HNZ : Hid (∀ X : Int, M.jac a N = 1 → X * X % (N : Int) = A % N → X ≠ 0) := Lib.hid fun X h h2 h4 => by
    subst h4
    have h5 : M.jac 0 N = 1 := by
      have : A % (N : Int) = 0 := by rw [← h2]; simp
      rw [← h, ← M.jac_emod a, hA, ← M.jac_emod A, this]
    have : M.jac 0 N = 0 := M.jac_zero_iff.2 (by rw [Int.gcd_zero_left]; simp; omega)
    omega
  have HE := Lib.hid ho
  have hc := M.jac_cases a N
  obtain ⟨J, hJ⟩ : ∃ J, M.jac a N = J := ⟨_, rfl⟩
  rw [hJ] at HO HC HX HNZ hc
  have HJ := Lib.hid hJ
  clear hA hj hJ hp ho
  rcases hc with rfl | rfl | rfl
  · go_enter Try.func29, Try.ntmps29
    go_wp2_with (first | (go_at_call 37; refine (squares_far _ _).mono ?_; rintro e w' ⟨rfl, rfl⟩))
    refine (HI.out _).mono ?_
    rintro e w1 ⟨rfl, hb1⟩
    go_wp2_with (first
      | (go_at_call 44; refine (HM.out _).mono ?_; rintro e w' ⟨rfl, rfl⟩)
      | (go_at_call 38; refine (HO.out _).mono ?_; rintro e w' ⟨rfl, rfl⟩))
    go_ret2
    exact ⟨.inr ⟨.inl HJ.out, 0, rfl, by omega, by omega, Lib.hid (by simpa using HX.out trivial)⟩, hb1⟩
  · go_enter Try.func29, Try.ntmps29
    go_wp2_with (first | (go_at_call 37; refine (squares_far _ _).mono ?_; rintro e w' ⟨rfl, rfl⟩))
    refine (HI.out _).mono ?_
    rintro e w1 ⟨rfl, hb1⟩
    go_wp2_with (first
      | (go_at_call 44; refine (HM.out _).mono ?_; rintro e w' ⟨rfl, rfl⟩)
      | (go_at_call 38; refine (HO.out _).mono ?_; rintro e w' ⟨rfl, rfl⟩))
    refine (HC.out trivial _).mono ?_
    rintro e w2 ⟨⟨X, rfl, x1, x2, HXX⟩, hb2⟩
    have hb12 := below_two hb1 hb2
    have s1 : IntKind.i64.wrap ((N : Int) - X) = (N : Int) - X := IntWalk.i64_in _ (by omega)
    have x0 := HNZ.out X trivial HXX.out
    have he := HE.out
    have HF : Hid (X * X % (N : Int) = a % N) := Lib.hid (HXX.out.trans HA.out)
    have HF2 : Hid (((N : Int) - X) * ((N : Int) - X) % (N : Int) = a % N) := Lib.hid (by
      rw [← HF.out, Int.emod_eq_emod_iff_emod_sub_eq_zero]
      exact Int.emod_eq_zero_of_dvd ⟨(N : Int) - 2 * X, by grind⟩)
    have hlt : X < (N : Int) - X ∨ (N : Int) - X < X := by omega
    clear x0 he
    rcases hlt with hlt | hlt
    · go_wp2
      go_ret2
      exact ⟨.inr ⟨.inr HJ.out, X, rfl, x1, by omega, HF⟩, hb12⟩
    · have hlt2 : ¬ X < (N : Int) - X := by omega
      go_wp2
      go_ret2
      exact ⟨.inr ⟨.inr HJ.out, (N : Int) - X, rfl, by omega, by omega, HF2⟩, hb12⟩
  · go_enter Try.func29, Try.ntmps29
    go_wp2_with (first | (go_at_call 37; refine (squares_far _ _).mono ?_; rintro e w' ⟨rfl, rfl⟩))
    refine (HI.out _).mono ?_
    rintro e w1 ⟨rfl, hb1⟩
    go_wp2_with (first
      | (go_at_call 44; refine (HM.out _).mono ?_; rintro e w' ⟨rfl, rfl⟩)
      | (go_at_call 38; refine (HO.out _).mono ?_; rintro e w' ⟨rfl, rfl⟩))
    go_ret2
    exact ⟨.inl ⟨HJ.out, rfl⟩, hb1⟩
end Go.Proofs.Ytlabkedkamdomaa
