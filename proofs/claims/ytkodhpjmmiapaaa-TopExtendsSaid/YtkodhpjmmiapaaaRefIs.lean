/- The contract of the reference's Is: trial division decides whether a number is prime. -/
import Derived.Test.YtkodhpjmmiapaaaRef
import Derived.Test.YtkodhpjmmiapaaaNum3
namespace Go.Proofs.Ytkodhpjmmiapaaa
open Go.RowKit
set_option linter.unusedVariables false
set_option linter.unusedSimpArgs false
/-- is a number prime? -/
noncomputable def prB (n : Int) : Bool := @decide (M.Pr n.toNat) (Classical.propDecidable _)
theorem prB_true {n : Int} (h : prB n = true) : M.Pr n.toNat := @of_decide_eq_true _ (Classical.propDecidable _) h
theorem prB_false {n : Int} (h : prB n = false) : ¬ M.Pr n.toNat := @of_decide_eq_false _ (Classical.propDecidable _) h
theorem prB_yes {n : Int} (h : M.Pr n.toNat) : prB n = true := @decide_eq_true _ (Classical.propDecidable _) h
theorem prB_no {n : Int} (h : ¬ M.Pr n.toNat) : prB n = false := @decide_eq_false _ (Classical.propDecidable _) h
theorem prB_small {n : Int} (h : n < 2) : prB n = false := prB_no fun hp => by have := hp.1; omega
/-- no divisor from 2 on below d -/
def NoDiv (n d : Int) : Prop := ∀ e : Int, 2 ≤ e → e < d → ¬ e ∣ n
theorem NoDiv.prime {n d : Int} (h : NoDiv n d) (hn : 2 ≤ n) (hd : 2 ≤ d) (hx : n ≤ d ∨ n < d * d) : M.Pr n.toNat := by
  rw [M.Pr.iff_trial]
  refine ⟨by omega, fun e he hee hdv => ?_⟩
  have hdv' : (e : Int) ∣ n := by
    have := Int.natCast_dvd_natCast.2 hdv
    rwa [Int.toNat_of_nonneg (by omega)] at this
  refine h e (by omega) ?_ hdv'
  have h2 : (e : Int) * e ≤ n := by
    have : ((e * e : Nat) : Int) ≤ n := by omega
    rwa [Int.natCast_mul] at this
  have h3 : (2 : Int) * e ≤ e * e := Int.mul_le_mul_of_nonneg_right (by omega) (by omega)
  rcases hx with hx | hx
  · omega
  · by_cases hlt : (e : Int) < d
    · exact hlt
    · have := Int.mul_le_mul (show d ≤ e by omega) (show d ≤ (e : Int) by omega) (by omega) (by omega)
      omega
theorem not_prime_of_dvd {n d : Int} (hn : 2 ≤ n) (hd : 2 ≤ d) (hlt : d < n) (hdv : d ∣ n) : ¬ M.Pr n.toNat := by
  intro hp
  have h1 : d.toNat ∣ n.toNat := by
    apply Int.natCast_dvd_natCast.1
    rwa [Int.toNat_of_nonneg (by omega), Int.toNat_of_nonneg (by omega)]
  rcases hp.2 _ h1 with e | e <;> omega
theorem NoDiv.succ {n d : Int} (h : NoDiv n d) (hd : ¬ d ∣ n) : NoDiv n (d + 1) := fun e h1 h2 => by
  by_cases e1 : e = d
  · subst e1; exact hd
  · exact h e h1 (by omega)
set_option maxHeartbeats 800000 in
theorem ref_Is (n : Int) (w : World) (hn : n ≤ 2147483648) :
    Calls Try.prog 47 #[.int .i64 n] w fun e w' => e = .returned (.bool (prB n)) ∧ w = w' := by
  by_cases h2 : n < 2
  · have H := Lib.hid (prB_small h2)
    go_enter Try.func47, Try.ntmps47
    go_wp2
    go_ret
    exact ⟨ret_bool H.out.symm, rfl⟩
  · go_enter Try.func47, Try.ntmps47
    go_wp2
    go_loop [3] (fun d => ∃ D : Int, d = .int .i64 D ∧ 2 ≤ D ∧ D ≤ n ∧ NoDiv n D) (fun d => (n - intOf d).toNat)
    case atStart => exact ⟨2, rfl, by omega, by omega, fun e h1 h2 => by omega⟩
    case round =>
      obtain ⟨D, rfl, hd1, hd2, hno⟩ := hrel
      have p1 : D * D ≤ 2147483648 * 2147483648 := Int.mul_le_mul (by omega) (by omega) (by omega) (by omega)
      have p2 : 0 ≤ D * D := Int.mul_nonneg (by omega) (by omega)
      by_cases hlt : D < n
      · by_cases hsq : D * D ≤ n
        · by_cases hdv : D ∣ n
          · have H := Lib.hid (prB_no (not_prime_of_dvd (by omega) hd1 hlt hdv))
            have hz : (n % D == 0) = true := by simpa using Int.emod_eq_zero_of_dvd hdv
            clear hdv hno
            go_wp2
            go_ret
            exact ⟨ret_bool H.out.symm, rfl⟩
          · have H := Lib.hid (hno.succ hdv)
            have hz : (n % D == 0) = false := by simpa using fun h => hdv (Int.dvd_of_emod_eq_zero h)
            clear hdv hno
            go_wp2
            go_round
            case rel => exact ⟨D + 1, by go_num, by omega, by omega, H.out⟩
            case measure => simp [intOf]; omega
        · have H := Lib.hid (prB_yes (hno.prime (by omega) hd1 (.inr (by omega))))
          clear hno
          go_wp2
          go_ret
          exact ⟨ret_bool H.out.symm, rfl⟩
      · have H := Lib.hid (prB_yes (hno.prime (by omega) hd1 (.inl (by omega))))
        clear hno
        go_wp2
        go_ret
        exact ⟨ret_bool H.out.symm, rfl⟩
end Go.Proofs.Ytkodhpjmmiapaaa
