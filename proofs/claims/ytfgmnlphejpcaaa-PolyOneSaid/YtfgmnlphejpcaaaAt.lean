/- The contracts of poly.At. -/
import Derived.Test.YtfgmnlphejpcaaaRootM
import Derived.Test.YtfgmnlphejpcaaaKeep
namespace Go.Proofs.Ytfgmnlphejpcaaa
open Go.RowKit
set_option linter.unusedVariables false
set_option linter.unusedSimpArgs false
set_option maxRecDepth 20000 in
set_option maxHeartbeats 1600000 in
theorem poly_At_err (p x : Int) (a : Option Addr) (c : Nat) (xs : List Int) (w : World) (h : RowL w a c xs) (hl : xs.length ≤ maxLen) (hx : polyE p xs ≠ 0 ∨ x < -2147483648 ∨ 2147483648 < x) :
    Calls Try.prog 15 #[.int .i64 p, .slice a xs.length c, .int .i64 x] w fun e w' => (∃ t, t ≠ 0 ∧ e = .returned (.tuple #[.int .i64 0, .int .i64 t])) ∧ Below w.heap.size w w' := by
  have HC := Lib.hid (poly_Check p a c xs w h hl)
  obtain ⟨L, hL⟩ : ∃ L, xs.length = L := ⟨_, rfl⟩
  obtain ⟨t, ht⟩ : ∃ t, polyE p xs = t := ⟨_, rfl⟩
  rw [hL, ht] at HC
  rw [ht] at hx
  rw [hL]
  clear hL ht h hl
  by_cases h0 : t = 0
  · subst h0
    have hx2 : x < -2147483648 ∨ 2147483648 < x := by rcases hx with h | h; exact absurd rfl h; exact h
    clear hx
    rcases hx2 with hx | hx
    all_goals
      go_enter Try.func15, Try.ntmps15
      go_wp2_with fail
      refine HC.out.mono ?_
      rintro e w1 ⟨rfl, hb1⟩
      go_wp2
      go_ret2
      exact ⟨⟨2, by decide, rfl⟩, hb1⟩
  · have H0 := Lib.hid h0
    have e1 : (t == 0) = false := by simpa using h0
    have e2 : (t != 0) = true := by simpa using h0
    clear h0 hx
    go_enter Try.func15, Try.ntmps15
    go_wp2_with fail
    refine HC.out.mono ?_
    rintro e w1 ⟨rfl, hb1⟩
    go_wp2
    go_ret2
    exact ⟨⟨t, H0.out, rfl⟩, hb1⟩
set_option maxRecDepth 20000 in
set_option maxHeartbeats 1600000 in
theorem poly_At (p x : Int) (a : Option Addr) (c : Nat) (xs : List Int) (w : World) (g : Good p xs) (h : RowL w a c xs) (h1 : -2147483648 ≤ x) (h2 : x ≤ 2147483648) :
    Calls Try.prog 15 #[.int .i64 p, .slice a xs.length c, .int .i64 x] w fun e w' => e = .returned (.tuple #[.int .i64 (valL p xs (x % p)), .int .i64 0]) ∧ Below w.heap.size w w' := by
  have hp := g.prime
  have HC := Lib.hid (poly_Check p a c xs w h (by have := g.len; unfold maxLen; omega))
  rw [polyE_zero.2 g] at HC
  have HR := Lib.hid h
  have HV := Lib.hid fun w' h => poly_Value p (x % p) a c xs w' (by omega) hp.2.1 (Int.emod_nonneg _ (by omega)) (Int.emod_lt_of_pos _ (by omega)) h (by have := g.len; omega) g.rng
  have p1 := hp.1
  have p2 := hp.2.1
  obtain ⟨L, hL⟩ : ∃ L, xs.length = L := ⟨_, rfl⟩
  rw [hL] at HC HV ⊢
  clear hL h g hp
  go_enter Try.func15, Try.ntmps15
  go_wp2_with fail
  refine HC.out.mono ?_
  rintro e w1 ⟨rfl, hb1⟩
  go_wp2_with fail
  refine (euclid_Mod x p _ (by omega) (by omega)).mono ?_
  rintro e w2 ⟨rfl, rfl⟩
  go_wp2_with fail
  refine (HV.out _ (HR.out.below hb1 (Nat.le_refl _))).mono ?_
  rintro e w3 ⟨rfl, hb3⟩
  go_wp2
  go_ret2
  exact ⟨rfl, below_two hb1 hb3⟩
end Go.Proofs.Ytfgmnlphejpcaaa
