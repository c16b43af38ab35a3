/- The reference's inverse by a prime (as in XFldR, for seats without field). -/
import Derived.Test.YtfgmnlphejpcaaaPolC
import Derived.Test.YtfgmnlphejpcaaaPw
namespace Go.Proofs.Ytfgmnlphejpcaaa
open Go.RowKit
set_option linter.unusedVariables false
set_option linter.unusedSimpArgs false
theorem inv_exp {p : Int} (h2 : 2 ≤ p) : 0 ≤ p - 2 + (p - 1) * ((2 : Int).tdiv p) ∧ p - 2 + (p - 1) * ((2 : Int).tdiv p) ≤ p ∧ ((2 : Int).tdiv p = 1 ∧ p = 2 ∨ (2 : Int).tdiv p = 0 ∧ 3 ≤ p) := by
  by_cases h : p = 2
  · subst h; exact ⟨by decide, by decide, .inl ⟨by decide, rfl⟩⟩
  · have e : (2 : Int).tdiv p = 0 := by rw [Int.tdiv_eq_ediv_of_nonneg (by omega)]; exact Int.ediv_eq_zero_of_lt (by omega) (by omega)
    rw [e]
    exact ⟨by omega, by omega, .inr ⟨rfl, by omega⟩⟩
def invE (x p : Int) : Int := pw x (if p = 2 then 1 else p - 2) p
theorem invE_ok {x p : Int} (hpr : prB p = true) (h2 : 2 ≤ p) (h0 : 0 < x) (h1 : x < p) : invE x p * x % p = 1 := by
  obtain ⟨P, rfl⟩ := Int.eq_ofNat_of_zero_le (show 0 ≤ p by omega)
  have hP : M.Pr P := by simpa using prB_true hpr
  unfold invE
  by_cases h : (P : Int) = 2
  · rw [if_pos h, h]
    obtain rfl : x = 1 := by omega
    rfl
  · rw [if_neg h]
    have hf := M.fermat_int1 hP (a := x) fun hd => by
      have := Int.le_of_dvd h0 hd
      omega
    unfold pw
    rw [Int.mul_emod, Int.emod_emod, ← Int.mul_emod, ← Int.pow_succ, show ((P : Int) - 2).toNat.succ = P - 1 by omega]
    exact hf
set_option maxHeartbeats 1600000 in
theorem ref_inverse (x p : Int) (w : World) (h2 : 2 ≤ p) (h3 : p ≤ 251) :
    Calls Try.prog 65 #[.int .i64 x, .int .i64 p] w fun e w' => e = .returned (.int .i64 (invE x p)) ∧ w = w' := by
  by_cases h : p = 2
  · subst h
    have HP := Lib.hid fun w => ref_Pow x 1 2 w (by omega) (by omega) (by omega) (by omega)
    go_enter Try.func65, Try.ntmps65
    go_wp2_with fail
    refine (HP.out _).mono ?_
    rintro e w1 ⟨rfl, rfl⟩
    go_wp2
    go_ret
    exact ⟨rfl, rfl⟩
  · have HP := Lib.hid fun w => ref_Pow x (p - 2) p w (by omega) (by omega) (by omega) (by omega)
    have d1 : (2 : Int).tdiv p = 0 := by rw [Int.tdiv_eq_ediv_of_nonneg (by omega)]; exact Int.ediv_eq_zero_of_lt (by omega) (by omega)
    have d2 : (2 : Int) / p = 0 := Int.ediv_eq_zero_of_lt (by omega) (by omega)
    have d3 : (p == 0) = false := by simp; omega
    have HN := Lib.hid h
    have HE : Hid (invE x p = pw x (p - 2) p) := Lib.hid (by unfold invE; rw [if_neg h])
    clear h
    go_enter Try.func65, Try.ntmps65
    go_wp2_with fail
    refine (HP.out _).mono ?_
    rintro e w1 ⟨rfl, rfl⟩
    go_wp2
    go_ret
    exact ⟨by rw [HE.out]; rfl, rfl⟩
end Go.Proofs.Ytfgmnlphejpcaaa
