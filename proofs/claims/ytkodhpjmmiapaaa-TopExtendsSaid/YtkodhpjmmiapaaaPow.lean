/- Contracts of package power: out, Of, Pow. -/
import Derived.Test.YtkodhpjmmiapaaaEu2
import Derived.Test.YtkodhpjmmiapaaaNum3
namespace Go.Proofs.Ytkodhpjmmiapaaa
open Go.RowKit
set_option linter.unusedVariables false
set_option linter.unusedSimpArgs false

theorem and_one_i64 (k : Int) (h : 0 ≤ k) (h2 : k ≤ 9223372036854775807) : bits BinOp.and IntKind.i64 k 1 = k % 2 := by
  have two63 : (2 : Int) ^ 63 = 9223372036854775808 := by decide
  have h := bits_mask .i64 63 (by decide) (fun n h0 h1 => by rw [two63] at h1; rw [IntKind.wrap_i64]; omega) 1 (by decide) k (by omega) (by rw [two63]; omega)
  have e : ((2 : Int) ^ 1 - 1) = 1 := by decide
  rw [e] at h
  rw [h]; rfl
/-- one round of the power by squares -/
def PowRel (a0 k0 m x a k : Int) : Prop := 0 ≤ x ∧ x < m ∧ 0 ≤ a ∧ a < m ∧ 0 ≤ k ∧ k ≤ k0 ∧ x * a ^ k.toNat % m = a0 ^ k0.toNat % m
theorem PowRel.init {a0 k0 m : Int} (hm : 1 ≤ m) (hk : 0 ≤ k0) : PowRel a0 k0 m (1 % m) (a0 % m) k0 := by
  refine ⟨Int.emod_nonneg _ (by omega), Int.emod_lt_of_pos _ (by omega), Int.emod_nonneg _ (by omega), Int.emod_lt_of_pos _ (by omega), hk, Int.le_refl _, ?_⟩
  rw [Int.mul_emod, Int.emod_emod, ← Int.mul_emod, Int.one_mul, M.emod_pow]
theorem mul_lim {a b : Int} (h1 : 0 ≤ a) (h2 : a ≤ 1048576) (h3 : 0 ≤ b) (h4 : b ≤ 1048576) : 0 ≤ a * b ∧ a * b ≤ 1099511627776 :=
  ⟨Int.mul_nonneg h1 h3, by have := Int.mul_le_mul h2 h4 h3 (by omega : (0 : Int) ≤ 1048576); omega⟩
theorem half_pow {k : Int} (h : 0 ≤ k) : k.toNat = k % 2 + 2 * (k / 2).toNat := by omega
theorem PowRel.odd {a0 k0 m x a k : Int} (h : PowRel a0 k0 m x a k) (ho : k % 2 = 1) (hm : 1 ≤ m) : PowRel a0 k0 m (x * a % m) (a * a % m) (k / 2) := by
  obtain ⟨h1, h2, h3, h4, h5, h6, h7⟩ := h
  refine ⟨Int.emod_nonneg _ (by omega), Int.emod_lt_of_pos _ (by omega), Int.emod_nonneg _ (by omega), Int.emod_lt_of_pos _ (by omega), by omega, by omega, ?_⟩
  rw [← h7, Int.mul_emod, Int.emod_emod, M.emod_pow, ← Int.mul_emod]
  have e : k.toNat = (k / 2).toNat + (k / 2).toNat + 1 := by omega
  rw [e, Int.pow_succ, Int.pow_add, Int.mul_pow]
  congr 1; grind
theorem PowRel.even {a0 k0 m x a k : Int} (h : PowRel a0 k0 m x a k) (ho : k % 2 = 0) (hm : 1 ≤ m) : PowRel a0 k0 m x (a * a % m) (k / 2) := by
  obtain ⟨h1, h2, h3, h4, h5, h6, h7⟩ := h
  refine ⟨h1, h2, Int.emod_nonneg _ (by omega), Int.emod_lt_of_pos _ (by omega), by omega, by omega, ?_⟩
  rw [← h7, Int.mul_emod, M.emod_pow, ← Int.mul_emod]
  have e : k.toNat = (k / 2).toNat + (k / 2).toNat := by omega
  rw [e, Int.pow_add, Int.mul_pow]
set_option maxHeartbeats 800000 in
theorem power_Of (a0 k0 m : Int) (w : World) (hk : 0 ≤ k0) (hk2 : k0 ≤ 9223372036854775807) (hm : 1 ≤ m) (hm2 : m ≤ 1048576) :
    Calls Try.prog 34 #[.int .i64 a0, .int .i64 k0, .int .i64 m] w fun e w' => e = .returned (.int .i64 (a0 ^ k0.toNat % m)) ∧ w = w' := by
  go_enter Try.func34, Try.ntmps34
  go_wp2_with fail
  refine (euclid_Mod _ _ _ hm (by omega)).mono ?_
  rintro e w' ⟨rfl, rfl⟩
  go_wp2
  go_loop [0, 1, 7] (fun a k x => ∃ A K X : Int, a = .int .i64 A ∧ k = .int .i64 K ∧ x = .int .i64 X ∧ PowRel a0 k0 m X A K) (fun _ k _ => (intOf k).toNat)
  case atStart => exact ⟨_, _, _, rfl, rfl, rfl, PowRel.init hm hk⟩
  case round =>
    obtain ⟨A, K, X, rfl, rfl, rfl, hr⟩ := hrel
    have ⟨b1, b2, b3, b4, b5, b6, b7⟩ := hr
    have HB := Lib.hid b7
    clear b7
    have p1 := mul_lim b1 (by omega) b3 (by omega)
    have p2 := mul_lim b3 (by omega) b3 (by omega)
    have HA := Lib.hid (and_one_i64 K b5 (by omega))
    by_cases h0 : 0 < K
    · by_cases ho : K % 2 = 1
      · have HO := Lib.hid ho
        have hb : (bits BinOp.and IntKind.i64 K 1 == 1) = true := by rw [HA.out, ho]; rfl
        clear ho
        go_wp2
        go_round
        case rel => exact ⟨_, _, _, rfl, rfl, rfl, hr.odd HO.out hm⟩
        case measure => simp [intOf]; omega
      · have HO := Lib.hid (show K % 2 = 0 by omega)
        have hb : (bits BinOp.and IntKind.i64 K 1 == 1) = false := by rw [HA.out, HO.out]; rfl
        clear ho
        go_wp2
        go_round
        case rel => exact ⟨_, _, _, rfl, rfl, rfl, hr.even HO.out hm⟩
        case measure => simp [intOf]; omega
    · go_wp2
      go_ret
      exact ⟨ret_int (by rw [← HB.out]; have : K.toNat = 0 := by omega
                         rw [this, Int.pow_zero, Int.mul_one, Int.emod_eq_of_lt b1 b2]), rfl⟩

end Go.Proofs.Ytkodhpjmmiapaaa
