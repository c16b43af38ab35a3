/- The walk of the statement SquaresEuler. -/
import Derived.Test.YtlabkedkamdomaaJac
import Derived.Test.YtlabkedkamdomaaPow
import Derived.Test.YtlabkedkamdomaaRefIs
namespace Go.Proofs.Ytlabkedkamdomaa
open Go.RowKit
set_option linter.unusedVariables false
set_option linter.unusedSimpArgs false
theorem crit_law {a p : Int} (hp : prB p = true) (h1 : 1 ≤ p) (ho : p % 2 = 1) : a ^ ((p - 1) / 2).toNat % p = M.jac a p % p := by
  have hpr := prB_true hp
  obtain ⟨q, rfl⟩ := Int.eq_ofNat_of_zero_le (show 0 ≤ p by omega)
  rw [Int.toNat_natCast] at hpr
  have h := M.euler_crit hpr (by omega) a
  have e : (((q : Int) - 1) / 2).toNat = (q - 1) / 2 := by omega
  rw [e]
  exact Int.emod_eq_emod_iff_emod_sub_eq_zero.2 (Int.emod_eq_zero_of_dvd h)
theorem jac_one (a : Int) : M.jac a 1 = 1 := by simp [M.jac, M.prodI]
set_option maxHeartbeats 1600000 in
theorem WSquaresEuler (a0 : Int) (a1 : Int) (w : World) (w0 : (Lit.int .i64 a0).wf = true) (w1 : (Lit.int .i64 a1).wf = true) :
    Calls Try.prog 8 #[.int .i64 a0, .int .i64 a1] w fun e w' => e = .returned (.bool true) ∧ Below w.heap.size w w' := by
  have b0 := wf64 w0
  have b1 := wf64 w1
  clear w0 w1
  by_cases ha : farB a0 = true
  · have H0 : Hid (farB a0 = true ∨ a1 < 1 ∨ 1048576 < a1 ∨ a1 % 2 = 0) := .inl ha
    go_enter Try.func8, Try.ntmps8
    go_wp2_with (first | (go_at_call 23; refine (squares_Jacobi_no _ _ _ H0.out).mono ?_; rintro e w' ⟨rfl, rfl⟩) | (go_at_call 16; refine (keep_modulus _ _).mono ?_; rintro e w' ⟨rfl, rfl⟩) | (go_at_call 18; refine (keep_near _ _).mono ?_; rintro e w' ⟨rfl, rfl⟩))
    go_ret
    exact ⟨rfl, Below.refl _ _⟩
  · have ha' : farB a0 = false := by simpa using ha
    clear ha
    have ⟨f1, f2⟩ := farB_false ha'
    by_cases hm : modB a1 = true
    · obtain ⟨m1, m2⟩ := modB_true hm
      by_cases ho : a1 % 2 = 0
      · have H0 : Hid (farB a0 = true ∨ a1 < 1 ∨ 1048576 < a1 ∨ a1 % 2 = 0) := .inr (.inr (.inr ho))
        have z : (a1 % 2 == 0) = true := by simp [ho]
        clear ho
        go_enter Try.func8, Try.ntmps8
        go_wp2_with (first | (go_at_call 23; refine (squares_Jacobi_no _ _ _ H0.out).mono ?_; rintro e w' ⟨rfl, rfl⟩) | (go_at_call 16; refine (keep_modulus _ _).mono ?_; rintro e w' ⟨rfl, rfl⟩) | (go_at_call 18; refine (keep_near _ _).mono ?_; rintro e w' ⟨rfl, rfl⟩))
        go_ret
        exact ⟨rfl, Below.refl _ _⟩
      · have ho' : a1 % 2 = 1 := by omega
        have z : (a1 % 2 == 0) = false := by simp [ho]
        have l1 := M.jac_cases a0 a1
        have HO := Lib.hid ho'
        have HL := Lib.hid (fun h : prB a1 = true => crit_law (a := a0) h m1 ho')
        have H1 : Hid (a1 = 1 → M.jac a0 a1 = 1) := fun h => by subst h; exact jac_one a0
        obtain ⟨x, hx⟩ : ∃ x, x = M.jac a0 a1 := ⟨_, rfl⟩
        obtain ⟨y, hy⟩ : ∃ y, y = a0 ^ ((a1 - 1) / 2).toNat % a1 := ⟨_, rfl⟩
        rw [← hx] at l1 HL H1
        rw [← hy] at HL
        have HX := Lib.hid hx
        have HY := Lib.hid hy
        clear hx hy ho ho'
        have k0 : (a1 - 1) / 2 ≤ 1048576 := by omega
        have k1 : 0 ≤ (a1 - 1) / 2 := by omega
        by_cases h1 : a1 = 1
        · have e := H1.out h1
          have e1 : (x == 1) = true := by simp [e]
          have e2 : (a1 == 1) = true := by simp [h1]
          clear h1 e
          go_enter Try.func8, Try.ntmps8
          go_wp2_with (first | (go_at_call 23; refine (squares_Jacobi _ _ _ f1 f2 m1 m2 HO.out).mono ?_; rintro e w' ⟨rfl, rfl⟩; rw [← HX.out]) | (go_at_call 24; refine (power_Pow _ _ _ _ ha' (by omega) (by omega) m1 m2).mono ?_; rintro e w' ⟨rfl, rfl⟩; rw [← HY.out]) | (go_at_call 16; refine (keep_modulus _ _).mono ?_; rintro e w' ⟨rfl, rfl⟩) | (go_at_call 18; refine (keep_near _ _).mono ?_; rintro e w' ⟨rfl, rfl⟩) | (go_at_call 17; refine (ref_Is _ _ (by omega)).mono ?_; rintro e w' ⟨rfl, rfl⟩) | (go_at_call 25; refine (ref_Mod _ _ _ m1 (by omega)).mono ?_; rintro e w' ⟨rfl, rfl⟩))
          go_ret
          exact ⟨rfl, Below.refl _ _⟩
        · have e2 : (a1 == 1) = false := by simp [h1]
          have e3 : 1 < a1 := by omega
          clear h1
          by_cases hp : prB a1 = true
          · have e4 : (y == x % a1) = true := by simp [HL.out hp]
            go_enter Try.func8, Try.ntmps8
            go_wp2_with (first | (go_at_call 23; refine (squares_Jacobi _ _ _ f1 f2 m1 m2 HO.out).mono ?_; rintro e w' ⟨rfl, rfl⟩; rw [← HX.out]) | (go_at_call 24; refine (power_Pow _ _ _ _ ha' (by omega) (by omega) m1 m2).mono ?_; rintro e w' ⟨rfl, rfl⟩; rw [← HY.out]) | (go_at_call 16; refine (keep_modulus _ _).mono ?_; rintro e w' ⟨rfl, rfl⟩) | (go_at_call 18; refine (keep_near _ _).mono ?_; rintro e w' ⟨rfl, rfl⟩) | (go_at_call 17; refine (ref_Is _ _ (by omega)).mono ?_; rintro e w' ⟨rfl, rfl⟩) | (go_at_call 25; refine (ref_Mod _ _ _ m1 (by omega)).mono ?_; rintro e w' ⟨rfl, rfl⟩))
            go_ret
            exact ⟨rfl, Below.refl _ _⟩
          · have hp' : prB a1 = false := by simpa using hp
            clear hp
            go_enter Try.func8, Try.ntmps8
            go_wp2_with (first | (go_at_call 23; refine (squares_Jacobi _ _ _ f1 f2 m1 m2 HO.out).mono ?_; rintro e w' ⟨rfl, rfl⟩; rw [← HX.out]) | (go_at_call 24; refine (power_Pow _ _ _ _ ha' (by omega) (by omega) m1 m2).mono ?_; rintro e w' ⟨rfl, rfl⟩; rw [← HY.out]) | (go_at_call 16; refine (keep_modulus _ _).mono ?_; rintro e w' ⟨rfl, rfl⟩) | (go_at_call 18; refine (keep_near _ _).mono ?_; rintro e w' ⟨rfl, rfl⟩) | (go_at_call 17; refine (ref_Is _ _ (by omega)).mono ?_; rintro e w' ⟨rfl, rfl⟩) | (go_at_call 25; refine (ref_Mod _ _ _ m1 (by omega)).mono ?_; rintro e w' ⟨rfl, rfl⟩))
            go_ret
            exact ⟨rfl, Below.refl _ _⟩
    · have hm' : modB a1 = false := by simpa using hm
      clear hm
      have hmm := modB_false hm'
      have H0 : Hid (farB a0 = true ∨ a1 < 1 ∨ 1048576 < a1 ∨ a1 % 2 = 0) := by rcases hmm with h | h; exact .inr (.inl h); exact .inr (.inr (.inl h))
      go_enter Try.func8, Try.ntmps8
      go_wp2_with (first | (go_at_call 23; refine (squares_Jacobi_no _ _ _ H0.out).mono ?_; rintro e w' ⟨rfl, rfl⟩) | (go_at_call 16; refine (keep_modulus _ _).mono ?_; rintro e w' ⟨rfl, rfl⟩) | (go_at_call 18; refine (keep_near _ _).mono ?_; rintro e w' ⟨rfl, rfl⟩))
      go_ret
      exact ⟨rfl, Below.refl _ _⟩
end Go.Proofs.Ytlabkedkamdomaa
