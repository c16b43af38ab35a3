/- The contracts of slices.Grow of nothing, slices.Concat of two rows of bytes. -/
import Derived.Test.YtkodhpjmmiapaaaLit
namespace Go.Proofs.Ytkodhpjmmiapaaa
open Go.RowKit
set_option linter.unusedVariables false
set_option linter.unusedSimpArgs false
set_option maxRecDepth 20000 in
set_option maxHeartbeats 1600000 in
theorem slices_Grow (n : Nat) (w : World) (hn : 1 ≤ n) (hn2 : n ≤ 1048576) :
    Calls Try.prog 61 #[.slice none 0 0, .int .i64 n] w fun e w' => ∃ g cap, e = .returned (.slice (some ⟨g, 0, none⟩) 0 cap) ∧ n ≤ cap ∧ Below w.heap.size w w' ∧ w'.ownsRow w.heap.size 5 1 (.slice (some ⟨g, 0, none⟩) 0 cap) 0 [] := by
  obtain ⟨i0, hi, hz0, hz1, hz2⟩ := info_parts byte_info
  have hu : Try.prog.underlying 31 = some (.slice 5) := by kernel_rfl
  have d1 : decide ((n : Int) < 0) = false := decide_eq_false (by omega)
  have d2 : decide (0 < (n : Int)) = true := decide_eq_true (by omega)
  have tb : (Try.t5).bytes = 1 := rfl
  have hnc : Builtin.nextslicecap n 0 = n := by
    unfold Builtin.nextslicecap
    simp
    omega
  have c1 : (n : Int) * 1 ≤ 281474976710656 := by omega
  have c2 : ¬ 281474976710656 < n * 1 := by omega
  have c3 : ¬ (9223372036854775807 : Int) < n := by omega
  go_enter Try.func61, Try.ntmps61
  go_wp2_with fail
  have hge : n ≤ grownCap w n 0 5 := grownCap_ge w n 0 _
  have hle : grownCap w n 0 5 ≤ maxLen := grownCap_le_maxLen w n 0 _ (by unfold maxLen; omega)
  go_ret
  have hcut : grownCap w n 0 5 = (Question.appendCap n 0 5).cut (w.tape w.drawn (Question.appendCap n 0 5)) := rfl
  rw [← hcut]
  refine ⟨w.heap.size, grownCap w n 0 5, rfl, hge, ((Below.refl _ _).alloc (Nat.le_refl _) _).drew, ?_⟩
  refine World.ownsRow.drew (World.ownsRow_made _ _ _ (Nat.le_refl _) hle ?_)
  rw [Array.size_append, size_zeroCells, size_zeroCells]
  simp
  omega
end Go.Proofs.Ytkodhpjmmiapaaa
