/- The contract of euclid.Inverse. -/
import Derived.Test.YtkodhpjmmiapaaaEu
namespace Go.Proofs.Ytkodhpjmmiapaaa
open Go.RowKit
set_option linter.unusedVariables false
set_option linter.unusedSimpArgs false
def InvPost (a m : Int) (w : World) (e : Ending) (w' : World) : Prop :=
  ((Int.gcd a m = 1 ∧ ∃ i : Int, e = .returned (.tuple #[.int .i64 i, .int .i64 0]) ∧ 0 ≤ i ∧ i < m ∧ m ∣ i * a - 1) ∨ (Int.gcd a m ≠ 1 ∧ e = .returned (.tuple #[.int .i64 0, .int .i64 5]))) ∧ Below w.heap.size w w'
theorem gcd_emod (a m : Int) : Int.gcd (a % m) m = Int.gcd a m := by
  have h : a % m = a + m * -(a / m) := by have := Int.mul_ediv_add_emod a m; grind
  rw [h, Int.gcd_add_mul_left_left]
theorem inv_dvd {a m x y : Int} (h : x * (a % m) + y * m = 1) : m ∣ x % m * a - 1 := by
  have h1 := Int.mul_ediv_add_emod a m
  have h2 := Int.mul_ediv_add_emod x m
  exact ⟨x * (a / m) - y - x / m * a, by grind⟩
end Go.Proofs.Ytkodhpjmmiapaaa
