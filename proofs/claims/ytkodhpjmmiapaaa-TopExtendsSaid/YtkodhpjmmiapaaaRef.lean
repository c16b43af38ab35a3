/- Contracts of the small functions of the statements and of the reference: near, modulus, Far, Abs, Mod. -/
import Derived.Test.YtkodhpjmmiapaaaEu
namespace Go.Proofs.Ytkodhpjmmiapaaa
open Go.RowKit
set_option linter.unusedVariables false
set_option linter.unusedSimpArgs false
def modB (m : Int) : Bool := decide (1 ≤ m) && decide (m ≤ 1048576)
theorem modB_true {m : Int} (h : modB m = true) : 1 ≤ m ∧ m ≤ 1048576 := by unfold modB at h; simpa using h
theorem modB_false {m : Int} (h : modB m = false) : m < 1 ∨ 1048576 < m := by unfold modB at h; simp at h; omega
theorem modB_yes {m : Int} (h1 : 1 ≤ m) (h2 : m ≤ 1048576) : modB m = true := by unfold modB; simp; omega
theorem tmod_emod (a m : Int) (h : 1 ≤ m) : a % m = if a.tmod m < 0 then a.tmod m + m else a.tmod m := by
  have t := tmod_bd a m h
  have f := tmod_fix a m h
  split
  · rw [← f, Int.emod_eq_of_lt (by omega) (by omega)]
  · rw [← f, Int.add_emod_right, Int.emod_eq_of_lt (by omega) (by omega)]
set_option maxHeartbeats 400000 in
theorem ref_Mod (a m : Int) (w : World) (h1 : 1 ≤ m) (h2 : m ≤ 4611686018427387904) :
    Calls Try.prog 58 #[.int .i64 a, .int .i64 m] w fun e w' => e = .returned (.int .i64 (a % m)) ∧ w = w' := by
  have t := tmod_bd a m h1
  have E := Lib.hid (tmod_emod a m h1)
  by_cases h : a.tmod m < 0
  · go_enter Try.func58, Try.ntmps58
    go_wp2
    go_ret
    exact ⟨ret_int (by rw [E.out, if_pos h]), rfl⟩
  · go_enter Try.func58, Try.ntmps58
    go_wp2
    go_ret
    exact ⟨ret_int (by rw [E.out, if_neg (by omega)]), rfl⟩
end Go.Proofs.Ytkodhpjmmiapaaa
