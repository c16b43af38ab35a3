/- The walk of the statement PrimesEuler. -/
import Derived.Test.YtlabkedkamdomaaPrPhi
import Derived.Test.YtlabkedkamdomaaRefGcd
namespace Go.Proofs.Ytlabkedkamdomaa
open Go.RowKit
set_option linter.unusedVariables false
set_option linter.unusedSimpArgs false
theorem euler_facts {a b : Int} (h1 : 1 ≤ a) (h2 : 1 ≤ b) :
    (Int.gcd a b = 1 → (M.phi (a * b).toNat : Int) = (M.phi a.toNat : Int) * (M.phi b.toNat : Int) ∧ 1 ≤ (M.phi (a * b).toNat : Int)) ∧
    (Int.gcd a b ≠ 1 → (M.phi a.toNat : Int) * (M.phi b.toNat : Int) < (M.phi (a * b).toNat : Int)) := by
  obtain ⟨m, rfl⟩ := Int.eq_ofNat_of_zero_le (show 0 ≤ a by omega)
  obtain ⟨n, rfl⟩ := Int.eq_ofNat_of_zero_le (show 0 ≤ b by omega)
  have e : ((m : Int) * (n : Int)).toNat = m * n := by rw [← Int.natCast_mul, Int.toNat_natCast]
  have g : Int.gcd (m : Int) (n : Int) = Nat.gcd m n := rfl
  obtain ⟨i1, i2⟩ := M.phi_mul n (by omega) m (by omega)
  have hp := M.phi_pos (n := m * n) (Nat.mul_pos (by omega) (by omega))
  rw [e, g, Int.toNat_natCast, Int.toNat_natCast, ← Int.natCast_mul]
  exact ⟨fun h => ⟨by rw [i1 h], by omega⟩, fun h => by have := i2 h; omega⟩
theorem phi_lim {a : Int} (h1 : 1 ≤ a) (h2 : a ≤ 1048576) : (0 : Int) ≤ (M.phi a.toNat : Int) ∧ (M.phi a.toNat : Int) ≤ 1048576 := by
  have := M.phi_le a.toNat
  omega
theorem mul_lim2 {a b : Int} (h1 : 0 ≤ a) (h2 : a ≤ 1048576) (h3 : 0 ≤ b) (h4 : b ≤ 1048576) : 0 ≤ a * b ∧ a * b ≤ 1099511627776 :=
  ⟨Int.mul_nonneg h1 h3, by have := Int.mul_le_mul h2 h4 h3 (by omega : (0 : Int) ≤ 1048576); omega⟩
set_option maxHeartbeats 1600000 in
theorem WPrimesEuler (a0 : Int) (a1 : Int) (w : World) (w0 : (Lit.int .i64 a0).wf = true) (w1 : (Lit.int .i64 a1).wf = true) :
    Calls Try.prog 6 #[.int .i64 a0, .int .i64 a1] w fun e w' => e = .returned (.bool true) ∧ Below w.heap.size w w' := by
  have b0 := wf64 w0
  have b1 := wf64 w1
  clear w0 w1
  by_cases hm : modB a0 = true
  · obtain ⟨m1, m2⟩ := modB_true hm
    by_cases hn : modB a1 = true
    · obtain ⟨n1, n2⟩ := modB_true hn
      have pl := mul_lim2 (show 0 ≤ a0 by omega) m2 (show 0 ≤ a1 by omega) n2
      have p1 : 1 ≤ a0 * a1 := Int.mul_le_mul m1 n1 (by omega) (by omega)
      by_cases hc : a0 * a1 ≤ 1048576
      · obtain ⟨f1, f2⟩ := euler_facts m1 n1
        have x1 := phi_lim m1 m2
        have x2 := phi_lim n1 n2
        have x3 := phi_lim p1 hc
        obtain ⟨x, hx⟩ : ∃ x : Int, x = M.phi a0.toNat := ⟨_, rfl⟩
        obtain ⟨y, hy⟩ : ∃ x : Int, x = M.phi a1.toNat := ⟨_, rfl⟩
        obtain ⟨z, hz⟩ : ∃ x : Int, x = M.phi (a0 * a1).toNat := ⟨_, rfl⟩
        obtain ⟨g, hg⟩ : ∃ x : Nat, x = Int.gcd a0 a1 := ⟨_, rfl⟩
        rw [← hx] at x1 f1 f2
        rw [← hy] at x2 f1 f2
        rw [← hz] at x3 f1 f2
        rw [← hg] at f1 f2
        have HX := Lib.hid hx
        have HY := Lib.hid hy
        have HZ := Lib.hid hz
        have HG := Lib.hid hg
        clear hx hy hz hg
        have xy := mul_lim2 x1.1 x1.2 x2.1 x2.2
        by_cases hg1 : g = 1
        · obtain ⟨e1, e2⟩ := f1 hg1
          have q1 : (z == x * y) = true := by simp [e1]
          have q2 : ((g : Int) == 1) = true := by simp [hg1]
          have q3 : ((g : Int) != 1) = false := by simp [hg1]
          have q4 : (g : Int) = 1 := by omega
          clear f1 f2 e1 hg1
          go_enter Try.func6, Try.ntmps6
          go_wp2_with (go_at_call 16; refine (keep_modulus _ _).mono ?_; rintro e w' ⟨rfl, rfl⟩)
          refine (primes_Phi _ _ m1 m2).mono ?_
          rintro e w1 ⟨rfl, hb1⟩
          rw [← HX.out]
          go_wp2_with fail
          refine (primes_Phi _ _ n1 n2).mono ?_
          rintro e w2 ⟨rfl, hb2⟩
          rw [← HY.out]
          go_wp2_with fail
          refine (primes_Phi _ _ p1 hc).mono ?_
          rintro e w3 ⟨rfl, hb3⟩
          rw [← HZ.out]
          go_wp2_with (go_at_call 20; refine (ref_Gcd _ _ _ (by omega) (by omega) (by omega) (by omega)).mono ?_; rintro e w' ⟨rfl, rfl⟩; rw [← HG.out])
          go_ret
          exact ⟨rfl, below_two hb1 (below_two hb2 hb3)⟩
        · have e1 := f2 hg1
          have q2 : ((g : Int) == 1) = false := by simp; omega
          have q3 : ((g : Int) != 1) = true := by simp; omega
          have q4 : ¬ (g : Int) = 1 := by omega
          clear f1 f2 hg1
          go_enter Try.func6, Try.ntmps6
          go_wp2_with (go_at_call 16; refine (keep_modulus _ _).mono ?_; rintro e w' ⟨rfl, rfl⟩)
          refine (primes_Phi _ _ m1 m2).mono ?_
          rintro e w1 ⟨rfl, hb1⟩
          rw [← HX.out]
          go_wp2_with fail
          refine (primes_Phi _ _ n1 n2).mono ?_
          rintro e w2 ⟨rfl, hb2⟩
          rw [← HY.out]
          go_wp2_with fail
          refine (primes_Phi _ _ p1 hc).mono ?_
          rintro e w3 ⟨rfl, hb3⟩
          rw [← HZ.out]
          go_wp2_with (go_at_call 20; refine (ref_Gcd _ _ _ (by omega) (by omega) (by omega) (by omega)).mono ?_; rintro e w' ⟨rfl, rfl⟩; rw [← HG.out])
          go_ret
          exact ⟨rfl, below_two hb1 (below_two hb2 hb3)⟩
      · have hc' : 1048576 < a0 * a1 := by omega
        clear hc
        go_enter Try.func6, Try.ntmps6
        go_wp2_with (go_at_call 16; refine (keep_modulus _ _).mono ?_; rintro e w' ⟨rfl, rfl⟩)
        go_ret
        exact ⟨rfl, Below.refl _ _⟩
    · have hn' : modB a1 = false := by simpa using hn
      clear hn
      go_enter Try.func6, Try.ntmps6
      go_wp2_with (go_at_call 16; refine (keep_modulus _ _).mono ?_; rintro e w' ⟨rfl, rfl⟩)
      go_ret
      exact ⟨rfl, Below.refl _ _⟩
  · have hm' : modB a0 = false := by simpa using hm
    clear hm
    go_enter Try.func6, Try.ntmps6
    go_wp2_with (go_at_call 16; refine (keep_modulus _ _).mono ?_; rintro e w' ⟨rfl, rfl⟩)
    go_ret
    exact ⟨rfl, Below.refl _ _⟩
end Go.Proofs.Ytlabkedkamdomaa
