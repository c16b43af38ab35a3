/- The contract of euclid.Inverse. -/
import Derived.Test.YtceocooppjfjjaaEu
namespace Go.Proofs.Ytceocooppjfjjaa
open Go.RowKit
set_option linter.unusedVariables false
set_option linter.unusedSimpArgs false
def InvPost (a m : Int) (w : World) (e : Ending) (w' : World) : Prop :=
  ((Int.gcd a m = 1 ∧ ∃ i : Int, e = .returned (.tuple #[.int .i64 i, .int .i64 0]) ∧ 0 ≤ i ∧ i < m ∧ m ∣ i * a - 1) ∨ (Int.gcd a m ≠ 1 ∧ e = .returned (.tuple #[.int .i64 0, .int .i64 5]))) ∧ Below w.heap.size w w'
theorem gcd_emod (a m : Int) : Int.gcd (a % m) m = Int.gcd a m := by
  have h : a % m = a + m * -(a / m) := by have := Int.mul_ediv_add_emod a m; grind
  rw [h, Int.gcd_add_mul_left_left]
theorem inv_dvd {a m x y : Int} (h : x * (a % m) + y * m = 1) : m ∣ x % m * a - 1 := by
  have h1 := Int.mul_ediv_add_emod a m
  have h2 := Int.mul_ediv_add_emod x m
  exact ⟨x * (a / m) - y - x / m * a, by grind⟩
set_option maxHeartbeats 400000 in
theorem euclid_Inverse (a m : Int) (w : World) (h1 : -2147483648 ≤ a) (h2 : a ≤ 2147483648) (h3 : 1 ≤ m) (h4 : m ≤ 1048576) :
    Calls Try.prog 58 #[.int .i64 a, .int .i64 m] w (InvPost a m w) := by
  have hf : [a].any farB = false := by simp [farB_no h1 h2]
  have m1 := Int.emod_nonneg a (show m ≠ 0 by omega)
  have m2 := Int.emod_lt_of_pos a (show 0 < m by omega)
  have G := Lib.hid (gcd_emod a m)
  go_enter Try.func58, Try.ntmps58
  go_wp2_with fail
  refine (euclid_far [a] _ _ (by simp) ?_).mono ?_
  · intro k hk
    match k, hk with
    | 0, _ => simp
  rintro e w' ⟨rfl, rfl⟩
  go_wp2_with fail
  refine (euclid_Mod _ _ _ h3 (by omega)).mono ?_
  rintro e w' ⟨rfl, rfl⟩
  go_wp2_with fail
  refine (euclid_step _ _ _ (by omega) (by omega) (by omega) (by omega)).mono ?_
  rintro e w' ⟨g, x, y, rfl, hg, hy, b1, b2, b3, rfl⟩
  have b4 := b3 m1 (by omega)
  rw [G.out] at hg
  have HG := Lib.hid hg
  have HY := Lib.hid hy
  clear hg hy b3
  by_cases hg1 : g = 1
  · subst hg1
    go_wp2_with fail
    refine (euclid_Mod _ _ _ h3 (by omega)).mono ?_
    rintro e w' ⟨rfl, rfl⟩
    go_wp2
    go_ret2
    exact ⟨.inl ⟨by have := HG.out; simpa using this.symm, x % m, rfl, Int.emod_nonneg _ (by omega), Int.emod_lt_of_pos _ (by omega), inv_dvd HY.out⟩, (Below.refl _ _).alloc (Nat.le_refl _) _⟩
  · go_wp2
    go_ret2
    exact ⟨.inr ⟨by have := HG.out; omega, rfl⟩, (Below.refl _ _).alloc (Nat.le_refl _) _⟩
theorem euclid_Inverse_out (a m : Int) (w : World) (h : farB a = true ∨ m < 1 ∨ 1048576 < m) (hm : -9223372036854775808 ≤ m) (hm2 : m ≤ 9223372036854775807) :
    Calls Try.prog 58 #[.int .i64 a, .int .i64 m] w fun e w' => e = .returned (.tuple #[.int .i64 0, .int .i64 2]) ∧ Below w.heap.size w w' := by
  have H := Lib.hid h
  clear h
  by_cases hfa : farB a = true
  · have hf : [a].any farB = true := by simp [hfa]
    clear hfa
    go_enter Try.func58, Try.ntmps58
    go_wp2_with fail
    refine (euclid_far [a] _ _ (by simp) ?_).mono ?_
    · intro k hk
      match k, hk with
      | 0, _ => simp
    rintro e w' ⟨rfl, rfl⟩
    go_wp2
    go_ret2
    exact ⟨rfl, (Below.refl _ _).alloc (Nat.le_refl _) _⟩
  · have hf : [a].any farB = false := by simp [hfa]
    have hh : m < 1 ∨ 1048576 < m := by rcases H.out with h | h; exact absurd h hfa; exact h
    clear hfa H
    rcases hh with hh | hh
    all_goals
      go_enter Try.func58, Try.ntmps58
      go_wp2_with fail
      refine (euclid_far [a] _ _ (by simp) ?_).mono ?_
      · intro k hk
        match k, hk with
        | 0, _ => simp
      rintro e w' ⟨rfl, rfl⟩
      go_wp2
      go_ret2
      exact ⟨rfl, (Below.refl _ _).alloc (Nat.le_refl _) _⟩
end Go.Proofs.Ytceocooppjfjjaa
