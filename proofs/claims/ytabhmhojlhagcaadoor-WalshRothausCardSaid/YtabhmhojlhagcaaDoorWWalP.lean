/- The walk of the statement WalshParseval. -/
import Derived.Test.YtabhmhojlhagcaaDoorWav
namespace Go.Proofs.YtabhmhojlhagcaaDoor
open Go.RowKit
set_option linter.unusedVariables false
set_option linter.unusedSimpArgs false
theorem wf32 {a : Int} (h : (Lit.int .u32 a).wf = true) : 0 ≤ a ∧ a < 4294967296 := by
  have := h
  simp [Lit.wf, IntKind.min, IntKind.max, IntKind.signed, go_sem] at this
  omega
set_option maxHeartbeats 1600000 in
theorem ref_FunctionCheck (n : Int) (f : Nat) (w : World) (hf : f < 4294967296) :
    Calls Tryd.prog 15 #[.int .i64 n, .int .u32 f] w fun e w' => e = .returned (.bool (funB n f)) ∧ w = w' := by
  by_cases h0 : n < 0
  · have e : funB n f = false := by
      cases h : funB n f with
      | false => rfl
      | true => have := funB_yes.1 h; omega
    rw [e]
    clear e
    go_enter Tryd.func15, Tryd.ntmps15
    go_wp2
    go_ret
    exact ⟨ret_bool (by simp), rfl⟩
  · by_cases h5 : 5 < n
    · have e : funB n f = false := by
        cases h : funB n f with
        | false => rfl
        | true => have := funB_yes.1 h; omega
      rw [e]
      clear e
      go_enter Tryd.func15, Tryd.ntmps15
      go_wp2
      go_ret
      exact ⟨ret_bool (by simp), rfl⟩
    · rcases small_n (by omega) (by omega : n ≤ 5) with rfl | rfl | rfl | rfl | rfl | rfl
      all_goals
        go_enter Tryd.func15, Tryd.ntmps15
        go_wp2
        go_ret
        refine ⟨ret_bool ?_, rfl⟩
        rw [Bool.eq_iff_iff]
        simp [funB]
        try omega
theorem keep_function (n : Int) (f : Nat) (w : World) (hf : f < 4294967296) :
    Calls Tryd.prog 7 #[.int .i64 n, .int .u32 f] w fun e w' => e = .returned (.bool (funB n f)) ∧ w = w' := by
  have H := Lib.hid fun w => ref_FunctionCheck n f w hf
  go_enter Tryd.func7, Tryd.ntmps7
  go_wp2_with fail
  refine (H.out _).mono ?_
  rintro e w' ⟨rfl, rfl⟩
  go_wp2
  go_ret
  exact ⟨rfl, rfl⟩
theorem walsh_Waves_no (n : Int) (f : Nat) (w : World) (hf : f < 4294967296) (h : funB n f = false) :
    Calls Tryd.prog 5 #[.int .i64 n, .int .u32 f] w fun e w' => e = .returned (.tuple #[.slice none 0 0, .int .i64 2]) ∧ w = w' := by
  have HO := Lib.hid fun w => walsh_out n f w hf
  rw [h] at HO
  clear h
  go_enter Tryd.func5, Tryd.ntmps5
  go_wp2_with fail
  refine (HO.out _).mono ?_
  rintro e w' ⟨rfl, rfl⟩
  go_wp2
  go_ret2
  exact ⟨rfl, rfl⟩
theorem sq_bd {v B : Int} (h1 : -B ≤ v) (h2 : v ≤ B) : 0 ≤ v * v ∧ v * v ≤ B * B := by
  rcases Int.le_total 0 v with h | h
  · exact ⟨Int.mul_nonneg h h, Int.mul_le_mul h2 h2 h (by omega)⟩
  · have e : v * v = (-v) * (-v) := by rw [Int.neg_mul_neg]
    rw [e]
    exact ⟨Int.mul_nonneg (by omega) (by omega), Int.mul_le_mul (by omega) (by omega) (by omega) (by omega)⟩
end Go.Proofs.YtabhmhojlhagcaaDoor
