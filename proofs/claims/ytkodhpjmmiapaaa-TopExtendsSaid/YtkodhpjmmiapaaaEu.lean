/- Contracts of package euclid: what each of its functions computes, for arguments within the limits. -/
import Derived.Test.YtkodhpjmmiapaaaBase
import Derived.Test.YtkodhpjmmiapaaaEuM
namespace Go.Proofs.Ytkodhpjmmiapaaa
open Go.RowKit
set_option linter.unusedVariables false
set_option linter.unusedSimpArgs false

theorem tmod_bd (a m : Int) (h : 1 ≤ m) : -m < a.tmod m ∧ a.tmod m < m := by
  have h1 := Int.tmod_lt_of_pos a (show 0 < m by omega)
  have h2 := Int.tmod_lt_of_pos (-a) (show 0 < m by omega)
  rw [Int.neg_tmod] at h2; omega
theorem tmod_fix (a m : Int) (h : 1 ≤ m) : (a.tmod m + m) % m = a % m := by
  rw [Int.add_emod_right]
  have := Int.mul_tdiv_add_tmod a m
  conv => rhs; rw [← this]
  rw [Int.add_comm, Int.add_mul_emod_self_left]

set_option maxHeartbeats 400000 in
theorem euclid_Mod (a m : Int) (w : World) (h1 : 1 ≤ m) (h2 : m ≤ 2147483648) :
    Calls Try.prog 50 #[.int .i64 a, .int .i64 m] w fun e w' => e = .returned (.int .i64 (a % m)) ∧ w = w' := by
  have t := tmod_bd a m h1
  go_enter Try.func50, Try.ntmps50
  go_wp2
  go_ret
  exact ⟨ret_int (tmod_fix a m h1), rfl⟩

/-- out of the limits -/
def farB (x : Int) : Bool := decide (x < -2147483648) || decide (2147483648 < x)
theorem farB_false {x : Int} (h : farB x = false) : -2147483648 ≤ x ∧ x ≤ 2147483648 := by
  unfold farB at h; simp at h; omega
theorem farB_true {x : Int} (h : farB x = true) : x < -2147483648 ∨ 2147483648 < x := by
  unfold farB at h; simpa using h
theorem farB_no {x : Int} (h1 : -2147483648 ≤ x) (h2 : x ≤ 2147483648) : farB x = false := by
  unfold farB; simp; omega
theorem any_take_succ (zs : List Int) (k : Nat) (h : k < zs.length) : (zs.take (k + 1)).any farB = ((zs.take k).any farB || farB (zs[k]?.getD 0)) := by
  rw [List.take_succ_eq_append_getElem h, List.any_append]; simp [h]
theorem any_of_take (zs : List Int) (k : Nat) (h : (zs.take k).any farB = true) : zs.any farB = true := by
  rw [List.any_eq_true] at *; obtain ⟨x, hx, h⟩ := h; exact ⟨x, List.mem_of_mem_take hx, h⟩
def StepPost (a0 b0 : Int) (w : World) (e : Ending) (w' : World) : Prop := ∃ g x y : Int, e = .returned (.tuple #[.int .i64 g, .int .i64 x]) ∧ g.natAbs = Int.gcd a0 b0 ∧ x * a0 + y * b0 = g ∧ g.natAbs ≤ 2147483648 ∧ x.natAbs ≤ 2147483648 ∧ (0 ≤ a0 → 0 ≤ b0 → 0 ≤ g) ∧ w = w'
def inB (a b : Int) : Prop := -2147483648 ≤ a ∧ a ≤ 2147483648 ∧ -2147483648 ≤ b ∧ b ≤ 2147483648
def BezPost (a b : Int) (w : World) (e : Ending) (w' : World) : Prop := ∃ x y : Int, e = .returned (.tuple #[.int .i64 (Int.gcd a b), .int .i64 x, .int .i64 y, .int .i64 0]) ∧ x * a + y * b = Int.gcd a b ∧ (b ≠ 0 → 0 ≤ x ∧ x ≤ 2147483648) ∧ x.natAbs ≤ 2147483648 ∧ Below w.heap.size w w'
theorem prod_bd {x a : Int} (h1 : 0 ≤ x) (h2 : x ≤ 2147483648) (h3 : -2147483648 ≤ a) (h4 : a ≤ 2147483648) : -4611686018427387904 ≤ x * a ∧ x * a ≤ 4611686018427387904 := by
  have := Nat.mul_le_mul (show x.natAbs ≤ 2147483648 by omega) (show a.natAbs ≤ 2147483648 by omega)
  rw [← Int.natAbs_mul] at this; omega
end Go.Proofs.Ytkodhpjmmiapaaa
