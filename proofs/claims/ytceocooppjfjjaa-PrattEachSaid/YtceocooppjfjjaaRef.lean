/- Contracts of the small functions of the statements and of the reference: near, modulus, Far, Abs, Mod. -/
import Derived.Test.YtceocooppjfjjaaEu
namespace Go.Proofs.Ytceocooppjfjjaa
open Go.RowKit
set_option linter.unusedVariables false
set_option linter.unusedSimpArgs false
def modB (m : Int) : Bool := decide (1 ≤ m) && decide (m ≤ 1048576)
theorem modB_true {m : Int} (h : modB m = true) : 1 ≤ m ∧ m ≤ 1048576 := by unfold modB at h; simpa using h
theorem modB_false {m : Int} (h : modB m = false) : m < 1 ∨ 1048576 < m := by unfold modB at h; simp at h; omega
theorem modB_yes {m : Int} (h1 : 1 ≤ m) (h2 : m ≤ 1048576) : modB m = true := by unfold modB; simp; omega
set_option maxHeartbeats 400000 in
theorem ref_Far (x : Int) (w : World) :
    Calls Try.prog 41 #[.int .i64 x] w fun e w' => e = .returned (.bool (farB x)) ∧ w = w' := by
  by_cases h : farB x = true
  · have H := Lib.hid h
    have h2 := farB_true h
    clear h
    rcases h2 with h' | h'
    all_goals
      go_enter Try.func41, Try.ntmps41
      go_wp2
      go_ret
      exact ⟨ret_bool H.out.symm, rfl⟩
  · have h0 : farB x = false := by simpa using h
    obtain ⟨h1, h2⟩ := farB_false h0
    clear h
    go_enter Try.func41, Try.ntmps41
    go_wp2
    go_ret
    exact ⟨rfl, rfl⟩
set_option maxHeartbeats 400000 in
theorem keep_near (x : Int) (w : World) :
    Calls Try.prog 17 #[.int .i64 x] w fun e w' => e = .returned (.bool (!farB x)) ∧ w = w' := by
  go_enter Try.func17, Try.ntmps17
  go_wp2_with fail
  refine (ref_Far _ _).mono ?_
  rintro e w' ⟨rfl, rfl⟩
  go_wp2
  go_ret
  exact ⟨rfl, rfl⟩
set_option maxHeartbeats 400000 in
theorem keep_modulus (m : Int) (w : World) :
    Calls Try.prog 13 #[.int .i64 m] w fun e w' => e = .returned (.bool (modB m)) ∧ w = w' := by
  by_cases h : modB m = true
  · obtain ⟨h1, h2⟩ := modB_true h
    have H := Lib.hid h
    clear h
    go_enter Try.func13, Try.ntmps13
    go_wp2
    go_ret
    exact ⟨ret_bool H.out.symm, rfl⟩
  · have h0 : modB m = false := by simpa using h
    clear h
    rcases modB_false h0 with h' | h'
    · go_enter Try.func13, Try.ntmps13
      go_wp2
      go_ret
      exact ⟨rfl, rfl⟩
    · have h2 : 1 ≤ m := by omega
      go_enter Try.func13, Try.ntmps13
      go_wp2
      go_ret
      exact ⟨ret_bool (by simp [modB]; omega), rfl⟩
set_option maxHeartbeats 400000 in
theorem ref_Abs (x : Int) (w : World) (h1 : -4611686018427387904 ≤ x) (h2 : x ≤ 4611686018427387904) :
    Calls Try.prog 55 #[.int .i64 x] w fun e w' => e = .returned (.int .i64 x.natAbs) ∧ w = w' := by
  by_cases h : x < 0
  all_goals
    go_enter Try.func55, Try.ntmps55
    go_wp2
    go_ret
    exact ⟨ret_int (by omega), rfl⟩
theorem tmod_emod (a m : Int) (h : 1 ≤ m) : a % m = if a.tmod m < 0 then a.tmod m + m else a.tmod m := by
  have t := tmod_bd a m h
  have f := tmod_fix a m h
  split
  · rw [← f, Int.emod_eq_of_lt (by omega) (by omega)]
  · rw [← f, Int.add_emod_right, Int.emod_eq_of_lt (by omega) (by omega)]
set_option maxHeartbeats 400000 in
theorem ref_Mod (a m : Int) (w : World) (h1 : 1 ≤ m) (h2 : m ≤ 4611686018427387904) :
    Calls Try.prog 19 #[.int .i64 a, .int .i64 m] w fun e w' => e = .returned (.int .i64 (a % m)) ∧ w = w' := by
  have t := tmod_bd a m h1
  have E := Lib.hid (tmod_emod a m h1)
  by_cases h : a.tmod m < 0
  · go_enter Try.func19, Try.ntmps19
    go_wp2
    go_ret
    exact ⟨ret_int (by rw [E.out, if_pos h]), rfl⟩
  · go_enter Try.func19, Try.ntmps19
    go_wp2
    go_ret
    exact ⟨ret_int (by rw [E.out, if_neg (by omega)]), rfl⟩
end Go.Proofs.Ytceocooppjfjjaa
