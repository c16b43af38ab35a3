/- Contracts of package rsa: turn, Lock. -/
import Derived.Test.YtceocooppjfjjaaPow
namespace Go.Proofs.Ytceocooppjfjjaa
open Go.RowKit
set_option linter.unusedVariables false
set_option linter.unusedSimpArgs false
/-- may a key be used on a number? -/
def KeyOk (N E D x : Int) : Prop := 1 ≤ N ∧ N ≤ 1048576 ∧ 1 ≤ E ∧ 1 ≤ D ∧ E ≤ 2147483648 ∧ D ≤ 2147483648 ∧ 0 ≤ x ∧ x < N
set_option maxHeartbeats 800000 in
theorem rsa_turn (N E D x b : Int) (w : World) (h : KeyOk N E D x) (hb : 1 ≤ b) (hb2 : b ≤ 2147483648) :
    Calls Try.prog 59 #[.agg #[.int .i64 N, .int .i64 E, .int .i64 D], .int .i64 x, .int .i64 b] w fun e w' => e = .returned (.tuple #[.int .i64 (x ^ b.toNat % N), .int .i64 0]) ∧ Below w.heap.size w w' := by
  obtain ⟨h1, h2, h3, h4, h5, h6, h7, h8⟩ := h
  by_cases hed : E ≤ D
  all_goals
    go_enter Try.func59, Try.ntmps59
    go_wp2_with (first | (go_at_call 40; refine (power_Of _ _ _ _ (by omega) (by omega) h1 h2).mono ?_; rintro e w' ⟨rfl, rfl⟩))
    all_goals
      go_ret2
      exact ⟨rfl, (Below.refl _ _).alloc (Nat.le_refl _) _⟩
set_option maxHeartbeats 1600000 in
theorem rsa_turn_no (N E D x b : Int) (w : World) (h : ¬ KeyOk N E D x) :
    Calls Try.prog 59 #[.agg #[.int .i64 N, .int .i64 E, .int .i64 D], .int .i64 x, .int .i64 b] w fun e w' => e = .returned (.tuple #[.int .i64 0, .int .i64 2]) ∧ Below w.heap.size w w' := by
  have hc : N < 1 ∨ (1 ≤ N ∧ (1048576 < N ∨ (N ≤ 1048576 ∧ ((E ≤ D ∧ E < 1) ∨ (D < E ∧ D < 1) ∨ (1 ≤ E ∧ 1 ≤ D ∧ ((E ≤ D ∧ 2147483648 < D) ∨ (D < E ∧ 2147483648 < E) ∨ (E ≤ 2147483648 ∧ D ≤ 2147483648 ∧ (x < 0 ∨ (0 ≤ x ∧ N ≤ x))))))))) := by
    unfold KeyOk at h; omega
  clear h
  rcases hc with c | ⟨c1, c | ⟨c2, ⟨c3, c4⟩ | ⟨c3, c4⟩ | ⟨c3, c4, ⟨c5, c6⟩ | ⟨c5, c6⟩ | ⟨c5, c6, c7 | ⟨c7, c8⟩⟩⟩⟩⟩
  all_goals
    go_enter Try.func59, Try.ntmps59
    go_wp2
    all_goals
      go_ret2
      exact ⟨rfl, (Below.refl _ _).alloc (Nat.le_refl _) _⟩
set_option maxHeartbeats 800000 in
theorem rsa_Lock (N E D x : Int) (w : World) (h : KeyOk N E D x) :
    Calls Try.prog 31 #[.agg #[.int .i64 N, .int .i64 E, .int .i64 D], .int .i64 x] w fun e w' => e = .returned (.tuple #[.int .i64 (x ^ E.toNat % N), .int .i64 0]) ∧ Below w.heap.size w w' := by
  have H := Lib.hid h
  obtain ⟨h1, h2, h3, h4, h5, h6, h7, h8⟩ := h
  go_enter Try.func31, Try.ntmps31
  go_wp2_with fail
  refine (rsa_turn _ _ _ _ _ _ H.out (by omega) (by omega)).mono ?_
  rintro e w1 ⟨rfl, hb⟩
  go_wp2
  go_ret2
  exact ⟨rfl, ((Below.refl _ _).alloc (Nat.le_refl _) _).trans (hb.mono (by simp))⟩
set_option maxHeartbeats 800000 in
theorem rsa_Lock_no (N E D x : Int) (w : World) (h : ¬ KeyOk N E D x) :
    Calls Try.prog 31 #[.agg #[.int .i64 N, .int .i64 E, .int .i64 D], .int .i64 x] w fun e w' => e = .returned (.tuple #[.int .i64 0, .int .i64 2]) ∧ Below w.heap.size w w' := by
  have H := Lib.hid h
  clear h
  go_enter Try.func31, Try.ntmps31
  go_wp2_with fail
  refine (rsa_turn_no _ _ _ _ _ _ H.out).mono ?_
  rintro e w1 ⟨rfl, hb⟩
  go_wp2
  go_ret2
  exact ⟨rfl, ((Below.refl _ _).alloc (Nat.le_refl _) _).trans (hb.mono (by simp))⟩
end Go.Proofs.Ytceocooppjfjjaa
