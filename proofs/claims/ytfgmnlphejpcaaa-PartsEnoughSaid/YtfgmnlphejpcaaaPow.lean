/- Contracts of package power: out, Of, Pow. -/
import Derived.Test.YtfgmnlphejpcaaaEu2
import Derived.Test.YtfgmnlphejpcaaaNum3
namespace Go.Proofs.Ytfgmnlphejpcaaa
open Go.RowKit
set_option linter.unusedVariables false
set_option linter.unusedSimpArgs false

theorem and_one_i64 (k : Int) (h : 0 ≤ k) (h2 : k ≤ 9223372036854775807) : bits BinOp.and IntKind.i64 k 1 = k % 2 := by
  have two63 : (2 : Int) ^ 63 = 9223372036854775808 := by decide
  have h := bits_mask .i64 63 (by decide) (fun n h0 h1 => by rw [two63] at h1; rw [IntKind.wrap_i64]; omega) 1 (by decide) k (by omega) (by rw [two63]; omega)
  have e : ((2 : Int) ^ 1 - 1) = 1 := by decide
  rw [e] at h
  rw [h]; rfl
/-- one round of the power by squares -/
def PowRel (a0 k0 m x a k : Int) : Prop := 0 ≤ x ∧ x < m ∧ 0 ≤ a ∧ a < m ∧ 0 ≤ k ∧ k ≤ k0 ∧ x * a ^ k.toNat % m = a0 ^ k0.toNat % m
theorem PowRel.init {a0 k0 m : Int} (hm : 1 ≤ m) (hk : 0 ≤ k0) : PowRel a0 k0 m (1 % m) (a0 % m) k0 := by
  refine ⟨Int.emod_nonneg _ (by omega), Int.emod_lt_of_pos _ (by omega), Int.emod_nonneg _ (by omega), Int.emod_lt_of_pos _ (by omega), hk, Int.le_refl _, ?_⟩
  rw [Int.mul_emod, Int.emod_emod, ← Int.mul_emod, Int.one_mul, M.emod_pow]
theorem mul_lim {a b : Int} (h1 : 0 ≤ a) (h2 : a ≤ 1048576) (h3 : 0 ≤ b) (h4 : b ≤ 1048576) : 0 ≤ a * b ∧ a * b ≤ 1099511627776 :=
  ⟨Int.mul_nonneg h1 h3, by have := Int.mul_le_mul h2 h4 h3 (by omega : (0 : Int) ≤ 1048576); omega⟩
theorem half_pow {k : Int} (h : 0 ≤ k) : k.toNat = k % 2 + 2 * (k / 2).toNat := by omega
theorem PowRel.odd {a0 k0 m x a k : Int} (h : PowRel a0 k0 m x a k) (ho : k % 2 = 1) (hm : 1 ≤ m) : PowRel a0 k0 m (x * a % m) (a * a % m) (k / 2) := by
  obtain ⟨h1, h2, h3, h4, h5, h6, h7⟩ := h
  refine ⟨Int.emod_nonneg _ (by omega), Int.emod_lt_of_pos _ (by omega), Int.emod_nonneg _ (by omega), Int.emod_lt_of_pos _ (by omega), by omega, by omega, ?_⟩
  rw [← h7, Int.mul_emod, Int.emod_emod, M.emod_pow, ← Int.mul_emod]
  have e : k.toNat = (k / 2).toNat + (k / 2).toNat + 1 := by omega
  rw [e, Int.pow_succ, Int.pow_add, Int.mul_pow]
  congr 1; grind
theorem PowRel.even {a0 k0 m x a k : Int} (h : PowRel a0 k0 m x a k) (ho : k % 2 = 0) (hm : 1 ≤ m) : PowRel a0 k0 m x (a * a % m) (k / 2) := by
  obtain ⟨h1, h2, h3, h4, h5, h6, h7⟩ := h
  refine ⟨h1, h2, Int.emod_nonneg _ (by omega), Int.emod_lt_of_pos _ (by omega), by omega, by omega, ?_⟩
  rw [← h7, Int.mul_emod, M.emod_pow, ← Int.mul_emod]
  have e : k.toNat = (k / 2).toNat + (k / 2).toNat := by omega
  rw [e, Int.pow_add, Int.mul_pow]
end Go.Proofs.Ytfgmnlphejpcaaa
