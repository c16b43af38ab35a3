/- Powers of a rest as a plain function, and the reference's Pow. -/
import Derived.Test.YtkodhpjmmiapaaaPow
import Derived.Test.YtkodhpjmmiapaaaRef
namespace Go.Proofs.Ytkodhpjmmiapaaa
open Go.RowKit
set_option linter.unusedVariables false
set_option linter.unusedSimpArgs false
/-- a power's rest -/
def pw (a k m : Int) : Int := a ^ k.toNat % m
theorem pw_nonneg (a k : Int) {m : Int} (h : 1 ≤ m) : 0 ≤ pw a k m := Int.emod_nonneg _ (by omega)
theorem pw_lt (a k : Int) {m : Int} (h : 1 ≤ m) : pw a k m < m := Int.emod_lt_of_pos _ (by omega)
theorem pw_zero (a m : Int) : pw a 0 m = 1 % m := by simp [pw]
theorem pw_even {a k m : Int} (h : 0 ≤ k) (ho : k % 2 = 0) : pw a (k / 2) m * pw a (k / 2) m % m = pw a k m := by
  unfold pw
  rw [← Int.mul_emod, ← Int.pow_add]
  congr 2; omega
theorem pw_odd {a k m : Int} (h : 0 ≤ k) (ho : k % 2 = 1) : pw a (k / 2) m * pw a (k / 2) m % m * (a % m) % m = pw a k m := by
  unfold pw
  rw [← Int.mul_emod (a ^ (k / 2).toNat) (a ^ (k / 2).toNat) m, ← Int.pow_add, ← Int.mul_emod, ← Int.pow_succ]
  congr 2; omega
theorem pw_mul (a b k m : Int) : pw a k m * pw b k m % m = pw (a * b) k m := by unfold pw; rw [← Int.mul_emod, Int.mul_pow]
theorem pw_add (a m : Int) {j k : Int} (hj : 0 ≤ j) (hk : 0 ≤ k) : pw a j m * pw a k m % m = pw a (j + k) m := by
  unfold pw; rw [← Int.mul_emod, ← Int.pow_add]; congr 2; omega
theorem pw_pw (a m : Int) {j k : Int} (hj : 0 ≤ j) (hk : 0 ≤ k) : pw (pw a j m) k m = pw a (j * k) m := by
  unfold pw; rw [M.emod_pow, ← Int.pow_mul]; congr 2; rw [Int.toNat_mul hj hk]
theorem pw_emod (a k m : Int) : pw (a % m) k m = pw a k m := by unfold pw; rw [M.emod_pow]
set_option maxHeartbeats 800000 in
theorem ref_Pow_zero (a m : Int) (w : World) (hm : 1 ≤ m) (hm2 : m ≤ 1048576) :
    Calls Try.prog 48 #[.int .i64 a, .int .i64 0, .int .i64 m] w fun e w' => e = .returned (.int .i64 (pw a 0 m)) ∧ w = w' := by
  have H := Lib.hid (pw_zero a m)
  have f1 : Int.tmod 1 m = 1 % m := Int.tmod_eq_emod_of_nonneg (by omega)
  have f3 : (m == 0) = false := by simp; omega
  have f4 : ¬ m = 0 := by omega
  go_enter Try.func48, Try.ntmps48
  go_wp2
  go_ret
  exact ⟨ret_int H.out.symm, rfl⟩
set_option maxHeartbeats 800000 in
theorem ref_Pow_n (n : Nat) : ∀ (a k m : Int) (w : World), k.toNat ≤ n → 0 ≤ k → k ≤ 9223372036854775807 → 1 ≤ m → m ≤ 1048576 →
    Calls Try.prog 48 #[.int .i64 a, .int .i64 k, .int .i64 m] w fun e w' => e = .returned (.int .i64 (pw a k m)) ∧ w = w' := by
  induction n with
  | zero =>
    intro a k m w h hk hk2 hm hm2
    obtain rfl : k = 0 := by omega
    exact ref_Pow_zero a m w hm hm2
  | succ n ih =>
    intro a k m w h hk hk2 hm hm2
    by_cases h0 : k = 0
    · subst h0; exact ref_Pow_zero a m w hm hm2
    · have IH := Lib.hid (ih a (k / 2) m w (by omega) (by omega) (by omega) hm hm2)
      clear ih
      have a1 := pw_nonneg a (k / 2) hm
      have a2 := pw_lt a (k / 2) hm
      have HO := Lib.hid (@pw_odd a k m hk)
      have HE := Lib.hid (@pw_even a k m hk)
      obtain ⟨x, hx⟩ : ∃ x, pw a (k / 2) m = x := ⟨_, rfl⟩
      rw [hx] at a1 a2
      have HX := Lib.hid hx
      clear hx
      have e1 : (k == 0) = false := by simp; omega
      have e2 : Int.tdiv k 2 = k / 2 := Int.tdiv_eq_ediv_of_nonneg hk
      have e3 : Int.tmod k 2 = k % 2 := Int.tmod_eq_emod_of_nonneg hk
      have p := mul_lim a1 (by omega) a1 (by omega)
      have f1 : IntKind.i64.wrap (x * x) = x * x := IntWalk.i64_in _ (by omega)
      have f2 : Int.tmod (x * x) m = x * x % m := Int.tmod_eq_emod_of_nonneg p.1
      have f3 : (m == 0) = false := by simp; omega
      have f4 : ¬ m = 0 := by omega
      have b1 := Int.emod_nonneg (x * x) f4
      have b2 := Int.emod_lt_of_pos (x * x) (show 0 < m by omega)
      have b3 := Int.emod_nonneg a f4
      have b4 := Int.emod_lt_of_pos a (show 0 < m by omega)
      have p2 := mul_lim b1 (by omega) b3 (by omega)
      have g1 : IntKind.i64.wrap (x * x % m * (a % m)) = x * x % m * (a % m) := IntWalk.i64_in _ (by omega)
      have g2 : Int.tmod (x * x % m * (a % m)) m = x * x % m * (a % m) % m := Int.tmod_eq_emod_of_nonneg p2.1
      by_cases ho : k % 2 = 1
      · have HO2 := Lib.hid (HO.out ho)
        have e4 : (k % 2 == 1) = true := by simp [ho]
        clear ho HE HO
        go_enter Try.func48, Try.ntmps48
        go_wp2_with (first | (go_at_call 48; refine IH.out.mono ?_; rintro e w' ⟨rfl, rfl⟩; rw [HX.out]) | (go_at_call 58; refine (ref_Mod _ _ _ hm (by omega)).mono ?_; rintro e w' ⟨rfl, rfl⟩))
        go_ret
        exact ⟨ret_int (by rw [← HO2.out, HX.out]), rfl⟩
      · have HE2 := Lib.hid (HE.out (by omega))
        have e4 : (k % 2 == 1) = false := by simp; omega
        clear ho HE HO
        go_enter Try.func48, Try.ntmps48
        go_wp2_with (first | (go_at_call 48; refine IH.out.mono ?_; rintro e w' ⟨rfl, rfl⟩; rw [HX.out]) | (go_at_call 58; refine (ref_Mod _ _ _ hm (by omega)).mono ?_; rintro e w' ⟨rfl, rfl⟩))
        go_ret
        exact ⟨ret_int (by rw [← HE2.out, HX.out]), rfl⟩
theorem ref_Pow (a k m : Int) (w : World) (hk : 0 ≤ k) (hk2 : k ≤ 9223372036854775807) (hm : 1 ≤ m) (hm2 : m ≤ 1048576) :
    Calls Try.prog 48 #[.int .i64 a, .int .i64 k, .int .i64 m] w fun e w' => e = .returned (.int .i64 (pw a k m)) ∧ w = w' :=
  ref_Pow_n _ a k m w (Nat.le_refl _) hk hk2 hm hm2
theorem power_Of' (a k m : Int) (w : World) (hk : 0 ≤ k) (hk2 : k ≤ 9223372036854775807) (hm : 1 ≤ m) (hm2 : m ≤ 1048576) :
    Calls Try.prog 34 #[.int .i64 a, .int .i64 k, .int .i64 m] w fun e w' => e = .returned (.int .i64 (pw a k m)) ∧ w = w' := power_Of a k m w hk hk2 hm hm2
end Go.Proofs.Ytkodhpjmmiapaaa
