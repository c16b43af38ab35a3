/- The walks of the statements on powers: PowerFermat, PowerAdds. -/
import Derived.Test.YtfebomnblpamlaaPow
import Derived.Test.YtfebomnblpamlaaRefIs
namespace Go.Proofs.Ytfebomnblpamlaa
open Go.RowKit
set_option linter.unusedVariables false
set_option linter.unusedSimpArgs false
theorem fermat_prB {a p : Int} (hp : prB p = true) (h : 1 ≤ p) : a ^ p.toNat % p = a % p := by
  have h1 := M.fermat_int (prB_true hp) a
  rwa [Int.toNat_of_nonneg (by omega)] at h1
set_option maxHeartbeats 800000 in
theorem WPowerFermat (a0 : Int) (a1 : Int) (w : World) (w0 : (Lit.int .i64 a0).wf = true) (w1 : (Lit.int .i64 a1).wf = true) :
    Calls Try.prog 7 #[.int .i64 a0, .int .i64 a1] w fun e w' => e = .returned (.bool true) ∧ Below w.heap.size w w' := by
  clear w0 w1
  by_cases hf : farB a0 = true ∨ modB a1 = false
  · have HF : Hid (farB a0 = true ∨ a1 < 1 ∨ 1048576 < a1 ∨ a1 < 0 ∨ 2147483648 < a1) := by
      rcases hf with h | h
      · exact .inl h
      · rcases modB_false h with h | h
        · exact .inr (.inl h)
        · exact .inr (.inr (.inl h))
    have hc : (farB a0 = true) ∨ (farB a0 = false ∧ modB a1 = false) := by cases h : farB a0 <;> simp_all
    clear hf
    rcases hc with h0 | ⟨h0, h1⟩
    all_goals
      go_enter Try.func7, Try.ntmps7
      go_wp2_with fail
      refine (power_Pow_out _ _ _ _ HF.out).mono ?_
      rintro e w1 ⟨rfl, rfl⟩
      go_wp2_with (first | (go_at_call 16; refine (keep_near _ _).mono ?_; rintro e w' ⟨rfl, rfl⟩) | (go_at_call 20; refine (keep_modulus _ _).mono ?_; rintro e w' ⟨rfl, rfl⟩))
      go_ret
      exact ⟨rfl, Below.refl _ _⟩
  · have h0 : farB a0 = false := by cases h : farB a0 <;> simp_all
    have h1 : modB a1 = true := by cases h : modB a1 <;> simp_all
    clear hf
    have H0 := Lib.hid h0
    obtain ⟨c3, c4⟩ := modB_true h1
    have x1 := Int.emod_nonneg (a0 ^ a1.toNat) (show a1 ≠ 0 by omega)
    have x2 := Int.emod_lt_of_pos (a0 ^ a1.toNat) (show 0 < a1 by omega)
    have hx3 : prB a1 = true → a0 ^ a1.toNat % a1 = a0 % a1 ∧ 2 ≤ a1 := fun h => ⟨fermat_prB h c3, by have := (prB_true h).1; omega⟩
    obtain ⟨x, hx⟩ : ∃ x, a0 ^ a1.toNat % a1 = x := ⟨_, rfl⟩
    rw [hx] at x1 x2 hx3
    have HX := Lib.hid hx
    clear hx
    cases hp : prB a1 with
    | true =>
      obtain ⟨e3, e4⟩ := hx3 hp
      have H3 := Lib.hid e3
      have hp' := hp
      clear hx3 e3 hp
      go_enter Try.func7, Try.ntmps7
      go_wp2_with fail
      refine (power_Pow _ _ _ _ H0.out (by omega) (by omega) c3 c4).mono ?_
      rintro e w1 ⟨rfl, rfl⟩
      rw [HX.out]
      have h3 : (x == a0 % a1) = true := by rw [H3.out]; simp
      go_wp2_with (first | (go_at_call 16; refine (keep_near _ _).mono ?_; rintro e w' ⟨rfl, rfl⟩) | (go_at_call 20; refine (keep_modulus _ _).mono ?_; rintro e w' ⟨rfl, rfl⟩) | (go_at_call 24; refine (ref_Is _ _ (by omega)).mono ?_; rintro e w' ⟨rfl, rfl⟩) | (go_at_call 21; refine (ref_Mod _ _ _ c3 (by omega)).mono ?_; rintro e w' ⟨rfl, rfl⟩))
      go_ret
      exact ⟨rfl, Below.refl _ _⟩
    | false =>
      clear hx3
      have hc : 1 < a1 ∨ (a1 = 1 ∧ x = 0) := by omega
      rcases hc with hc | ⟨rfl, rfl⟩
      all_goals
        go_enter Try.func7, Try.ntmps7
        go_wp2_with fail
        refine (power_Pow _ _ _ _ H0.out (by omega) (by omega) c3 c4).mono ?_
        rintro e w1 ⟨rfl, rfl⟩
        rw [HX.out]
        go_wp2_with (first | (go_at_call 16; refine (keep_near _ _).mono ?_; rintro e w' ⟨rfl, rfl⟩) | (go_at_call 20; refine (keep_modulus _ _).mono ?_; rintro e w' ⟨rfl, rfl⟩) | (go_at_call 24; refine (ref_Is _ _ (by omega)).mono ?_; rintro e w' ⟨rfl, rfl⟩))
        go_ret
        exact ⟨rfl, Below.refl _ _⟩
theorem pow_add_mod (a : Int) (j k : Int) (m : Int) (hj : 0 ≤ j) (hk : 0 ≤ k) : a ^ j.toNat % m * (a ^ k.toNat % m) % m = a ^ (j + k).toNat % m := by
  rw [← Int.mul_emod, ← Int.pow_add]; congr 2; omega
set_option maxHeartbeats 800000 in
theorem WPowerAdds (a0 : Int) (a1 : Int) (a2 : Int) (a3 : Int) (w : World) (w0 : (Lit.int .i64 a0).wf = true) (w1 : (Lit.int .i64 a1).wf = true) (w2 : (Lit.int .i64 a2).wf = true) (w3 : (Lit.int .i64 a3).wf = true) :
    Calls Try.prog 8 #[.int .i64 a0, .int .i64 a1, .int .i64 a2, .int .i64 a3] w fun e w' => e = .returned (.bool true) ∧ Below w.heap.size w w' := by
  have b1 := wf64 w1
  have b2 := wf64 w2
  clear w0 w1 w2 w3
  cases h0 : farB a0 with
  | true =>
    go_enter Try.func8, Try.ntmps8
    go_wp2_with (first | (go_at_call 16; refine (keep_near _ _).mono ?_; rintro e w' ⟨rfl, rfl⟩))
    go_ret
    exact ⟨rfl, Below.refl _ _⟩
  | false =>
    cases h1 : modB a3 with
    | false =>
      go_enter Try.func8, Try.ntmps8
      go_wp2_with (first | (go_at_call 16; refine (keep_near _ _).mono ?_; rintro e w' ⟨rfl, rfl⟩) | (go_at_call 20; refine (keep_modulus _ _).mono ?_; rintro e w' ⟨rfl, rfl⟩))
      go_ret
      exact ⟨rfl, Below.refl _ _⟩
    | true =>
      have H0 := Lib.hid h0
      obtain ⟨c3, c4⟩ := modB_true h1
      have hc : (a1 < 0 ∨ (0 ≤ a1 ∧ a2 < 0) ∨ (0 ≤ a1 ∧ 0 ≤ a2 ∧ 2147483648 < a1) ∨ (0 ≤ a1 ∧ 0 ≤ a2 ∧ a1 ≤ 2147483648 ∧ 2147483648 - a1 < a2)) ∨ (0 ≤ a1 ∧ 0 ≤ a2 ∧ a1 ≤ 2147483648 ∧ a2 ≤ 2147483648 - a1) := by omega
      rcases hc with (hc | ⟨hc, hd⟩ | ⟨hc, hd, he⟩ | ⟨hc, hd, he, hf⟩) | ⟨d1, d2, d3, d4⟩
      · go_enter Try.func8, Try.ntmps8
        go_wp2_with (first | (go_at_call 16; refine (keep_near _ _).mono ?_; rintro e w' ⟨rfl, rfl⟩) | (go_at_call 20; refine (keep_modulus _ _).mono ?_; rintro e w' ⟨rfl, rfl⟩))
        go_ret
        exact ⟨rfl, Below.refl _ _⟩
      · go_enter Try.func8, Try.ntmps8
        go_wp2_with (first | (go_at_call 16; refine (keep_near _ _).mono ?_; rintro e w' ⟨rfl, rfl⟩) | (go_at_call 20; refine (keep_modulus _ _).mono ?_; rintro e w' ⟨rfl, rfl⟩))
        go_ret
        exact ⟨rfl, Below.refl _ _⟩
      · go_enter Try.func8, Try.ntmps8
        go_wp2_with (first | (go_at_call 16; refine (keep_near _ _).mono ?_; rintro e w' ⟨rfl, rfl⟩) | (go_at_call 20; refine (keep_modulus _ _).mono ?_; rintro e w' ⟨rfl, rfl⟩))
        go_ret
        exact ⟨rfl, Below.refl _ _⟩
      · go_enter Try.func8, Try.ntmps8
        go_wp2_with (first | (go_at_call 16; refine (keep_near _ _).mono ?_; rintro e w' ⟨rfl, rfl⟩) | (go_at_call 20; refine (keep_modulus _ _).mono ?_; rintro e w' ⟨rfl, rfl⟩))
        go_ret
        exact ⟨rfl, Below.refl _ _⟩
      · have E := Lib.hid (pow_add_mod a0 a1 a2 a3 d1 d2)
        have x1 := Int.emod_nonneg (a0 ^ a1.toNat) (show a3 ≠ 0 by omega)
        have x2 := Int.emod_lt_of_pos (a0 ^ a1.toNat) (show 0 < a3 by omega)
        have y1 := Int.emod_nonneg (a0 ^ a2.toNat) (show a3 ≠ 0 by omega)
        have y2 := Int.emod_lt_of_pos (a0 ^ a2.toNat) (show 0 < a3 by omega)
        have E1 := Lib.hid (show a0 ^ (1 : Int).toNat % a3 = a0 % a3 by show a0 ^ (0 + 1) % a3 = _; rw [Int.pow_succ, Int.pow_zero, Int.one_mul])
        obtain ⟨x, hx⟩ : ∃ x, a0 ^ a1.toNat % a3 = x := ⟨_, rfl⟩
        obtain ⟨y, hy⟩ : ∃ x, a0 ^ a2.toNat % a3 = x := ⟨_, rfl⟩
        obtain ⟨z, hz⟩ : ∃ x, a0 ^ (a1 + a2).toNat % a3 = x := ⟨_, rfl⟩
        rw [hx, hy, hz] at E
        rw [hx] at x1 x2
        rw [hy] at y1 y2
        have HX := Lib.hid hx
        have HY := Lib.hid hy
        have HZ := Lib.hid hz
        clear hx hy hz
        have p := mul_lim x1 (by omega) y1 (by omega)
        go_enter Try.func8, Try.ntmps8
        go_wp2_with (first | (go_at_call 16; refine (keep_near _ _).mono ?_; rintro e w' ⟨rfl, rfl⟩) | (go_at_call 20; refine (keep_modulus _ _).mono ?_; rintro e w' ⟨rfl, rfl⟩))
        refine (power_Pow _ _ _ _ H0.out (by omega) (by omega) c3 c4).mono ?_
        rintro e w1 ⟨rfl, rfl⟩
        rw [HX.out]
        go_wp2_with fail
        refine (power_Pow _ _ _ _ H0.out (by omega) (by omega) c3 c4).mono ?_
        rintro e w1 ⟨rfl, rfl⟩
        rw [HY.out]
        go_wp2_with fail
        refine (power_Pow _ _ _ _ H0.out (by omega) (by omega) c3 c4).mono ?_
        rintro e w1 ⟨rfl, rfl⟩
        rw [HZ.out]
        go_wp2_with fail
        refine (power_Pow _ _ _ _ H0.out (by omega) (by omega) c3 c4).mono ?_
        rintro e w1 ⟨rfl, rfl⟩
        rw [E1.out]
        have g1 : (x * y % a3 == z) = true := by rw [E.out]; simp
        go_wp2_with (first | (go_at_call 21; refine (ref_Mod _ _ _ c3 (by omega)).mono ?_; rintro e w' ⟨rfl, rfl⟩))
        go_ret
        exact ⟨ret_bool (by simp), Below.refl _ _⟩
end Go.Proofs.Ytfebomnblpamlaa
